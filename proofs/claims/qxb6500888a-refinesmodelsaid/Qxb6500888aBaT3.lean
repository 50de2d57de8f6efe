/- The plain machine: a decrement keeps the invariant. -/
import Derived.Test.Qxb6500888aBaT2
namespace Go.Proofs.Qxb6500888a
open Go.RowKit
set_option linter.unusedSimpArgs false
set_option linter.unusedVariables false
section
variable {G G' : GS} {B B' : BS} {atp : Nat → Nat} {Z : Nat → Prop}
theorem refL_count (G : GS) (a : Nat) {x : Nat} (hx : x ≠ 0) : (refL G a).count x = (slots G a).countP fun s => decide (G.word s = x) := by
  unfold refL refP slots
  rw [List.count_filter (by simp [hx]), List.countP_map, List.count_eq_countP, List.countP_map]
  refine List.countP_congr (fun i hi => ?_)
  simp
theorem perm_take {l : List Nat} (hn : l.Nodup) {o : Nat} (ho : o ∈ l) : l.Perm (o :: l.filter fun x => decide (x ≠ o)) := by
  refine (List.perm_cons_erase ho).trans (List.Perm.cons _ ?_)
  rw [hn.erase_eq_filter]
  refine List.Perm.of_eq ?_
  congr 1
  funext x
  by_cases e : x = o
  · subst e; simp
  · simp [e]
/-- One waiting decrement less. -/
theorem CI.less (h : CI G B atp Z) {o : Nat} (hp : G.pend o ≠ 0) (c : Nat → Nat) (hc : ∀ a, c a ≤ 3) (hco : ∀ a, a ≠ o → c a = G.cnt a) (hoo : 1 ≤ c o ∧ (c o = 3 ∨ c o + 1 = tot G B atp o)) : CI { lessG G o with cnt := c } B atp Z := by
  have hold := h.pend_old hp
  have htn : ∀ x, x ≠ o → tot { lessG G o with cnt := c } B atp x = tot G B atp x := fun x hx => by
    show Fn G B atp x + B.last.count x + fup G.pend o (G.pend o - 1) x = _
    rw [fup_ne _ _ hx]
    rfl
  have hto : tot { lessG G o with cnt := c } B atp o + 1 = tot G B atp o := by
    show Fn G B atp o + B.last.count o + fup G.pend o (G.pend o - 1) o + 1 = Fn G B atp o + B.last.count o + G.pend o
    rw [fup_self]
    omega
  refine ⟨⟨h.ok.hd, h.ok.wd, fun a ha => ?_, hc⟩, h.tk, h.dj, h.fz, h.nd, fun x hx => ?_, fun x h0 hx => ?_, h.er, h.z1, h.z2, h.z3, h.z4, h.y1, h.y2, h.l1, h.l2, h.l3, h.l4⟩
  · have ha' : fup G.pend o (G.pend o - 1) a ≠ 0 := ha
    by_cases e : a = o
    · subst e; exact h.ok.pd a hp
    · rw [fup_ne _ _ e] at ha'; exact h.ok.pd a ha'
  · by_cases e : x = o
    · subst e
      show 1 ≤ c x ∧ (c x = 3 ∨ c x = _)
      refine ⟨hoo.1, ?_⟩
      rcases hoo.2 with h1 | h1
      · exact .inl h1
      · right; omega
    · rw [htn x e]
      show 1 ≤ c x ∧ (c x = 3 ∨ c x = _)
      rw [hco x e]
      exact h.ce1 x hx
  · have e : x ≠ o := fun e => by
      subst e
      have hx' : oldB G B x = false := hx
      rw [hold] at hx'
      cases hx'
    rw [htn x e]
    show c x = 0 ∧ _
    rw [hco x e]
    exact h.ce0 x h0 hx
theorem CI.die (h : CI G B atp Z) {o : Nat} (hp : G.pend o ≠ 0) (hc : G.cnt o = 1) : CI (freeG { lessG G o with pend := addP (lessG G o).pend (refL G o) } o) B atp Z := by
  have hold := h.pend_old hp
  have hst := (oldB_t.1 hold).1
  have hnf := (oldB_t.1 hold).2
  obtain ⟨n, q, hh⟩ := st_some hst
  have hro := h.ok.hd o n q hh
  have hto : tot G B atp o = 1 := by
    rcases (h.ce1 o hold).2 with h1 | h1
    · omega
    · omega
  have hF0 : Fn G B atp o = 0 ∧ B.last.count o = 0 ∧ G.pend o = 1 := by unfold tot at hto; omega
  have hnZ : ¬ Z o := fun hz => by have := h.held hz; omega
  have hnA : ∀ x, Ac B Z x → x ≠ o := fun x hx e => by
    subst e
    rcases hx with h1 | h1
    · exact hnZ h1
    · exact hnf h1
  -- the dead object's own fields
  have hsl0 : ∀ s ∈ slots G o, G.lg s = false := fun s hs => by
    cases e : G.lg s with
    | false => rfl
    | true =>
      obtain ⟨e1, he1, e2⟩ := (h.l3 o hold s hs).1 e
      obtain ⟨p, hpz, t, ht, e3, _⟩ := h.l2 e1 he1
      have : t = s := by omega
      subst this
      have := h.slot_one hst (h.Ac_st (.inl hpz)) hs ht
      subst this
      exact absurd hpz hnZ
  have hwat : ∀ s ∈ slots G o, G.word s = atp s := fun s hs => (h.l3 o hold s hs).2 (hsl0 s hs)
  obtain ⟨G1, hG1⟩ : ∃ G1, freeG { lessG G o with pend := addP (lessG G o).pend (refL G o) } o = G1 := ⟨_, rfl⟩
  have hsz : szOf { lessG G o with pend := addP (lessG G o).pend (refL G o) } o = n := (stand_rf hh).2
  have ghd : G1.head = fup G.head o none := by rw [← hG1]; rfl
  have gw : G1.word = fillF G.word (offA o) (n + 1) 0 := by rw [← hG1]; show fillF G.word (offA o) (szOf _ o + 1) 0 = _; rw [hsz]
  have glg : G1.lg = fillF G.lg (offA o) (n + 1) false := by rw [← hG1]; show fillF G.lg (offA o) (szOf _ o + 1) false = _; rw [hsz]
  have gtk : G1.tk = fillF G.tk (offA o) (n + 1) false := by rw [← hG1]; show fillF G.tk (offA o) (szOf _ o + 1) false = _; rw [hsz]
  have gct : G1.cnt = fup G.cnt o 0 := by rw [← hG1]; rfl
  have gpd : G1.pend = addP (fup G.pend o (G.pend o - 1)) (refL G o) := by rw [← hG1]; rfl
  have ger : G1.errs = G.errs := by rw [← hG1]; rfl
  rw [hG1]
  have hhd : ∀ x, x ≠ o → G1.head x = G.head x := fun x hx => by rw [ghd, fup_ne _ _ hx]
  have hho : G1.head o = none := by rw [ghd, fup_self]
  have hsl : ∀ x, x ≠ o → slots G1 x = slots G x := fun x hx => by unfold slots rfOf; rw [hhd x hx]
  have hob : ∀ x, x ≠ o → oldB G1 B x = oldB G B x := fun x hx => by unfold oldB; rw [hhd x hx]
  have hoo : oldB G1 B o = false := by unfold oldB; rw [hho]; rfl
  have hOL : OL G1 B = (OL G B).filter fun x => decide (x ≠ o) := by
    unfold OL
    rw [List.filter_filter]
    refine List.filter_congr (fun x hx => ?_)
    by_cases e : x = o
    · subst e; rw [hoo]; simp
    · rw [hob x e]; simp [e]
  have hin : o ∈ OL G B := (mem_OL h.ok).2 hold
  have hFn : ∀ x, Fn G B atp x = Fn G1 B atp x + (slots G o).countP fun s => decide (atp s = x) := fun x => by
    unfold Fn FS
    rw [hOL]
    have hpm := (perm_take (OL_nd G B) hin).flatMap_right (slots G)
    rw [hpm.countP_eq, List.flatMap_cons, List.countP_append, Nat.add_comm]
    have e : ((OL G B).filter fun x => decide (x ≠ o)).flatMap (slots G1) = ((OL G B).filter fun x => decide (x ≠ o)).flatMap (slots G) := flatMap_congr' (fun x hx => hsl x (by have := (List.mem_filter.1 hx).2; simpa using this))
    rw [e]
  have hrc : ∀ x, x ≠ 0 → (refL G o).count x = (slots G o).countP fun s => decide (atp s = x) := fun x hx => by
    rw [refL_count G o hx]
    refine List.countP_congr (fun s hs => ?_)
    rw [hwat s hs]
  have htn : ∀ x, x ≠ 0 → x ≠ o → tot G1 B atp x = tot G B atp x := fun x h0 hx => by
    unfold tot
    rw [gpd, addP_count, fup_ne _ _ hx, hrc x h0, hFn x]
    omega
  have hself : (slots G o).countP (fun s => decide (atp s = o)) = 0 := by have := hFn o; omega
  have htz : tot G1 B atp o = 0 := by
    unfold tot
    rw [gpd, addP_count, fup_self, hrc o (by omega), hself]
    have := hFn o
    omega
  have hout : ∀ x, x ≠ o → (G.head x).isSome = true → ∀ s ∈ slots G x, ¬ (offA o ≤ s ∧ s < offA o + (n + 1)) := fun x hx hxs s hs hcc => by
    obtain ⟨n', q', e⟩ := st_some hxs
    have h1 := h.slot_in e hs
    have h2 := h.dj x o n' q' n q hx e hh
    omega
  have hw : ∀ x, x ≠ o → (G.head x).isSome = true → ∀ s ∈ slots G x, G1.word s = G.word s := fun x hx hxs s hs => by rw [gw]; exact fillF_out _ _ (hout x hx hxs s hs)
  have hlg : ∀ x, x ≠ o → (G.head x).isSome = true → ∀ s ∈ slots G x, G1.lg s = G.lg s := fun x hx hxs s hs => by rw [glg]; exact fillF_out _ _ (hout x hx hxs s hs)
  refine ⟨?_, fun x n' q' hx j hj => ?_, fun x y n1 q1 n2 q2 hxy hx hy => ?_, fun x hx => ?_, h.nd, fun x hx => ?_, fun x h0 hx => ?_, by rw [ger]; exact h.er, fun x hx => by rw [hob x (hnA x (.inl hx))]; exact h.z1 x hx, fun x hx => ?_, h.z3, fun p hpz s hs => ?_, h.y1, fun x hx s hs => ?_, h.l1, fun e he => ?_, fun x hx s hs => ?_, fun x hx s hs => ?_⟩
  · have := h.ok.drop hp
    unfold dropG at this
    rw [if_neg (by omega), if_neg (by omega), if_pos hc, hG1] at this
    exact this
  · have hxo : x ≠ o := fun e => by subst e; rw [hho] at hx; cases hx
    rw [hhd x hxo] at hx
    rw [gtk]
    have h2 := h.dj x o n' q' n q hxo hx hh
    rw [fillF_out _ _ (by omega)]
    exact h.tk x n' q' hx j hj
  · have hxo : x ≠ o := fun e => by subst e; rw [hho] at hx; cases hx
    have hyo : y ≠ o := fun e => by subst e; rw [hho] at hy; cases hy
    rw [hhd x hxo] at hx
    rw [hhd y hyo] at hy
    exact h.dj x y n1 q1 n2 q2 hxy hx hy
  · rw [hhd x (fun e => hnf (e ▸ hx))]
    exact h.fz x hx
  · have hxo : x ≠ o := fun e => by subst e; rw [hoo] at hx; cases hx
    rw [hob x hxo] at hx
    have hx0 : x ≠ 0 := fun e => by
      subst e
      have := h.ok.head_in (oldB_t.1 hx).1
      omega
    rw [gct, fup_ne _ _ hxo, htn x hx0 hxo]
    exact h.ce1 x hx
  · by_cases hxo : x = o
    · subst hxo
      rw [gct, fup_self]
      exact ⟨rfl, htz⟩
    · rw [hob x hxo] at hx
      rw [gct, fup_ne _ _ hxo, htn x h0 hxo]
      exact h.ce0 x h0 hx
  · rcases h.z2 x hx with h1 | ⟨p, hpz, s, hs, e⟩
    · exact .inl h1
    · exact .inr ⟨p, hpz, s, by rw [hsl p (hnA p (.inl hpz))]; exact hs, e⟩
  · rw [hsl p (hnA p (.inl hpz))] at hs
    exact h.z4 p hpz s hs
  · rw [hsl x (hnA x hx)] at hs
    rw [hw x (hnA x hx) (h.Ac_st hx) s hs]
    exact h.y2 x hx s hs
  · obtain ⟨p, hpz, s, hs, e1, e2, e3⟩ := h.l2 e he
    refine ⟨p, hpz, s, by rw [hsl p (hnA p (.inl hpz))]; exact hs, e1, e2, ?_⟩
    rw [hlg p (hnA p (.inl hpz)) (h.Ac_st (.inl hpz)) s hs]
    exact e3
  · have hxo : x ≠ o := fun e => by subst e; rw [hoo] at hx; cases hx
    rw [hob x hxo] at hx
    rw [hsl x hxo] at hs
    rw [hlg x hxo (oldB_t.1 hx).1 s hs, hw x hxo (oldB_t.1 hx).1 s hs]
    exact h.l3 x hx s hs
  · have hxo : x ≠ o := fun e => hnf (e ▸ hx)
    rw [hsl x hxo] at hs
    rw [hlg x hxo (h.fz x hx) s hs]
    exact h.l4 x hx s hs
theorem CI.drop (h : CI G B atp Z) {o : Nat} (hp : G.pend o ≠ 0) : CI (dropG G o) B atp Z := by
  have hold := h.pend_old hp
  have h1 := h.ce1 o hold
  have h3 := h.ok.ct o
  unfold dropG
  rw [if_neg (by omega)]
  by_cases c3 : G.cnt o = 3
  · rw [if_pos c3]
    exact h.less hp G.cnt h.ok.ct (fun _ _ => rfl) ⟨h1.1, .inl c3⟩
  · rw [if_neg c3]
    by_cases c1 : G.cnt o = 1
    · rw [if_pos c1]
      exact h.die hp c1
    · rw [if_neg c1]
      refine h.less hp _ (fun a => ?_) (fun a ha => fup_ne _ _ ha) ⟨?_, ?_⟩
      · by_cases e : a = o
        · subst e; rw [fup_self]; omega
        · rw [fup_ne _ _ e]; exact h.ok.ct a
      · rw [fup_self]; omega
      · right
        rw [fup_self]
        rcases h1.2 with h2 | h2
        · exact absurd h2 c3
        · omega
theorem CI.many : ∀ (n : Nat) {G : GS}, CI G B atp Z → CI (decN n G).2 B atp Z
  | 0, G, h => h
  | n + 1, G, h => by
    unfold decN
    cases hs : stepF G with
    | none => exact h
    | some G' =>
      obtain ⟨o, h1, rfl⟩ := stepF_inv hs
      exact CI.many n (h.drop h1.at_)
end
end Go.Proofs.Qxb6500888a
