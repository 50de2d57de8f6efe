/- The plain machine: the mutators' steps keep the invariant. -/
import Derived.Test.Qxb6500888aBaT1
namespace Go.Proofs.Qxb6500888a
open Go.RowKit
set_option linter.unusedSimpArgs false
set_option linter.unusedVariables false
section
variable {G G' : GS} {B B' : BS} {atp : Nat → Nat} {Z : Nat → Prop}
theorem CI.roots (h : CI G B atp Z) (R : Nat → List Nat) (hR : ∀ m, m < 4 → ∀ r ∈ R m, Ac B Z r) : CI G { B with roots := R } atp Z :=
  ⟨h.ok, h.tk, h.dj, h.fz, h.nd, h.ce1, h.ce0, h.er, h.z1, h.z2, h.z3, h.z4, hR, h.y2, h.l1, h.l2, h.l3, h.l4⟩
theorem CI.trace (h : CI G B atp Z) (k : Nat) : CI G { B with tr := k } atp Z :=
  ⟨h.ok, h.tk, h.dj, h.fz, h.nd, h.ce1, h.ce0, h.er, h.z1, h.z2, h.z3, h.z4, h.y1, h.y2, h.l1, h.l2, h.l3, h.l4⟩
theorem lgL_add (B : BS) {m : Nat} (hm : m < 4) (e : Nat × Nat) : (lgL (addB B m e)).Perm (e :: lgL B) := four_add B.logs hm e
theorem GOk.wr (h : GOk G) {s ref : Nat} (hr : ref = 0 ∨ (65536 ≤ ref ∧ ref < 98304)) : GOk (wrG G s ref) := ⟨h.hd, fun j hj => by
  by_cases e : j = s
  · subst e
    have : (wrG G j ref).word j = ref := fup_self _ _ _
    rw [this]
    exact hr
  · have : (wrG G s ref).word j = G.word j := fup_ne _ _ e
    rw [this]
    exact h.wd j hj, h.pd, h.ct⟩
theorem CI.write (h : CI G B atp Z) {m o n q i ref : Nat} (hm : m < 4) (ha : Ac B Z o) (hh : G.head o = some (n, q)) (hi : i < q) (href : ref = 0 ∨ Ac B Z ref) :
    CI (wrG G (offA o + 1 + i) ref) (wrB G B m (o + 1 + i) (offA o + 1 + i)) atp Z := by
  have hro := h.ok.hd o n q hh
  have hof := offA_in hro.1
  have hrv : ref = 0 ∨ (65536 ≤ ref ∧ ref < 98304) := by
    rcases href with h0 | h0
    · exact .inl h0
    · exact .inr (h.ok.head_in (h.Ac_st h0))
  obtain ⟨s, hs⟩ : ∃ s, offA o + 1 + i = s := ⟨_, rfl⟩
  have hso : s ∈ slots G o := mem_slots.2 ⟨i, by rw [(stand_rf hh).1]; exact hi, hs.symm⟩
  have hf : o + 1 + i = 65536 + s := by omega
  rw [hs, hf]
  have hlg : ∀ t, (wrG G s ref).lg t = if t = s then true else G.lg t := fun t => by
    show fup G.lg s true t = _
    by_cases e : t = s
    · subst e; rw [fup_self, if_pos rfl]
    · rw [fup_ne _ _ e, if_neg e]
  have hw : ∀ t, (wrG G s ref).word t = if t = s then ref else G.word t := fun t => by
    show fup G.word s ref t = _
    by_cases e : t = s
    · subst e; rw [fup_self, if_pos rfl]
    · rw [fup_ne _ _ e, if_neg e]
  have hlt : ∀ t, G.lg t = true → (wrG G s ref).lg t = true := fun t ht => by
    rw [hlg]
    by_cases e : t = s
    · rw [if_pos e]
    · rw [if_neg e]; exact ht
  have y2' : ∀ p, Ac B Z p → ∀ t ∈ slots G p, (wrG G s ref).word t = 0 ∨ Ac B Z ((wrG G s ref).word t) := fun p hp t ht => by
    rw [hw]
    by_cases e : t = s
    · rw [if_pos e]; exact href
    · rw [if_neg e]; exact h.y2 p hp t ht
  unfold wrB
  by_cases hl : G.lg s = true
  · rw [if_pos hl]
    refine ⟨h.ok.wr hrv, h.tk, h.dj, h.fz, h.nd, h.ce1, h.ce0, h.er, h.z1, h.z2, h.z3, h.z4, h.y1, y2', h.l1, fun e he => ?_, fun p hp t ht => ⟨fun hg => ?_, fun hg => ?_⟩, fun p hp t ht => hlt t (h.l4 p hp t ht)⟩
    · obtain ⟨p, hp, t, ht, e1, e2, e3⟩ := h.l2 e he
      exact ⟨p, hp, t, ht, e1, e2, hlt t e3⟩
    · refine (h.l3 p hp t ht).1 ?_
      rw [hlg] at hg
      by_cases e : t = s
      · rw [e]; exact hl
      · rw [if_neg e] at hg; exact hg
    · rw [hlg] at hg
      by_cases e : t = s
      · rw [if_pos e] at hg; cases hg
      · rw [if_neg e] at hg
        rw [hw, if_neg e]
        exact (h.l3 p hp t ht).2 hg
  · rw [if_neg hl]
    have hl' : G.lg s = false := by cases e : G.lg s with | true => exact absurd e hl | false => rfl
    have hZ : Z o := by
      rcases ha with ha | ha
      · exact ha
      · rw [h.l4 o ha s hso] at hl'; cases hl'
    have hat := (h.l3 o (h.z1 o hZ) s hso).2 hl'
    obtain ⟨e0, he0⟩ : ∃ e0, (65536 + s, G.word s) = e0 := ⟨_, rfl⟩
    have hperm := lgL_add B hm e0
    have e01 : e0.1 = 65536 + s := by rw [← he0]
    have e02 : e0.2 = atp s := by rw [← he0]; exact hat
    rw [he0]
    have hmem : ∀ e, e ∈ lgL (addB B m e0) ↔ e = e0 ∨ e ∈ lgL B := fun e => by rw [hperm.mem_iff, List.mem_cons]
    refine ⟨h.ok.wr hrv, h.tk, h.dj, h.fz, h.nd, h.ce1, h.ce0, h.er, h.z1, h.z2, h.z3, h.z4, h.y1, y2', ?_, fun e he => ?_, fun p hp t ht => ⟨fun hg => ?_, fun hg => ?_⟩, fun p hp t ht => hlt t (h.l4 p hp t ht)⟩
    · rw [(hperm.map Prod.fst).nodup_iff, List.map_cons, List.nodup_cons]
      refine ⟨fun hc => ?_, h.l1⟩
      obtain ⟨e, he, e1⟩ := List.mem_map.1 hc
      obtain ⟨p, hp, t, ht, e2, e3, e4⟩ := h.l2 e he
      have : t = s := by omega
      rw [this, hl'] at e4
      cases e4
    · rcases (hmem e).1 he with rfl | he
      · exact ⟨o, hZ, s, hso, e01, e02, by rw [hlg, if_pos rfl]⟩
      · obtain ⟨p, hp, t, ht, e1, e2, e3⟩ := h.l2 e he
        exact ⟨p, hp, t, ht, e1, e2, hlt t e3⟩
    · by_cases e : t = s
      · exact ⟨e0, (hmem e0).2 (.inl rfl), by rw [e]; exact e01⟩
      · rw [hlg, if_neg e] at hg
        obtain ⟨e1, he1, e2⟩ := (h.l3 p hp t ht).1 hg
        exact ⟨e1, (hmem e1).2 (.inr he1), e2⟩
    · rw [hlg] at hg
      by_cases e : t = s
      · rw [if_pos e] at hg; cases hg
      · rw [if_neg e] at hg
        rw [hw, if_neg e]
        exact (h.l3 p hp t ht).2 hg
theorem flatMap_congr' {α β : Type} {f g : α → List β} : ∀ {l : List α}, (∀ x ∈ l, f x = g x) → l.flatMap f = l.flatMap g
  | [], _ => rfl
  | x :: l, h => by
    rw [List.flatMap_cons, List.flatMap_cons, h x (by simp), flatMap_congr' (fun y hy => h y (by simp [hy]))]
theorem slots_ne {a x : Nat} (p : Option (Nat × Nat)) (W : Nat → Nat) (Lg : Nat → Bool) (Tk : Nat → Bool) (h : x ≠ a) : slots { G with tk := Tk, head := fup G.head a p, word := W, lg := Lg } x = slots G x := by
  unfold slots rfOf
  dsimp only
  rw [fup_ne _ _ h]
theorem CI.aloc (h : CI G B atp Z) {m n q s0 : Nat} (hm : m < 4) (hn : 1 ≤ n) (hn2 : n ≤ 8192) (hq : q ≤ n) (hp : placeA G.tk (1 + n) = some s0) :
    CI (newG G s0 n q) { newB B m (65536 + s0) with roots := fup B.roots m (B.roots m ++ [65536 + s0]) } atp Z := by
  obtain ⟨_, hfit, hfree⟩ := placeA_some hp
  obtain ⟨a, ha⟩ : ∃ a, 65536 + s0 = a := ⟨_, rfl⟩
  have hoa : offA a = s0 := offA_eq ha
  obtain ⟨B', hB'⟩ : ∃ B', ({ newB B m a with roots := fup B.roots m (B.roots m ++ [a]) } : BS) = B' := ⟨_, rfl⟩
  have hnone : G.head a = none := by
    cases e : G.head a with
    | none => rfl
    | some p =>
      have h1 := h.tk a p.1 p.2 e 0 (Nat.zero_le _)
      rw [hoa, hfree 0 (by omega)] at h1
      cases h1
  have hfr : (frL B').Perm (a :: frL B) := by rw [← hB']; exact four_add B.fresh hm a
  have hmf : ∀ x, x ∈ frL B' ↔ x = a ∨ x ∈ frL B := fun x => by rw [hfr.mem_iff, List.mem_cons]
  have hanf : a ∉ frL B := fun hc => by have := h.fz a hc; rw [hnone] at this; cases this
  have hhd : ∀ x, x ≠ a → (newG G s0 n q).head x = G.head x := fun x hx => by show fup G.head (65536 + s0) _ x = _; rw [ha, fup_ne _ _ hx]
  have hha : (newG G s0 n q).head a = some (n, q) := by show fup G.head (65536 + s0) _ a = _; rw [ha, fup_self]
  have hsl : ∀ x, x ≠ a → slots (newG G s0 n q) x = slots G x := fun x hx => by unfold newG; rw [ha]; exact slots_ne _ _ _ _ hx
  have hold : ∀ x, oldB (newG G s0 n q) B' x = oldB G B x := fun x => by
    rw [Bool.eq_iff_iff, oldB_t, oldB_t, hmf]
    by_cases e : x = a
    · subst e
      rw [hnone]
      simp
    · rw [hhd x e]
      simp [e]
  have hold' : oldB (newG G s0 n q) B' = oldB G B := funext hold
  have hOL : OL (newG G s0 n q) B' = OL G B := by unfold OL; rw [hold']
  have hne : ∀ x, oldB G B x = true → x ≠ a := fun x hx e => by
    subst e
    have := (oldB_t.1 hx).1
    rw [hnone] at this
    cases this
  have hFS : FS (newG G s0 n q) B' = FS G B := by
    unfold FS
    rw [hOL]
    refine flatMap_congr' (fun x hx => hsl x (hne x ?_))
    exact (mem_OL h.ok).1 hx
  have htot : ∀ x, tot (newG G s0 n q) B' atp x = tot G B atp x := fun x => by
    unfold tot Fn
    rw [hFS, ← hB']
    rfl
  have hnA : ∀ x, Ac B Z x → x ≠ a := fun x hx e => by
    subst e
    have := h.Ac_st hx
    rw [hnone] at this
    cases this
  -- a slot of another object is not touched
  have hout : ∀ x, (G.head x).isSome = true → ∀ s ∈ slots G x, ¬ (s0 ≤ s ∧ s < s0 + (n + 1)) := fun x hx s hs hc => by
    obtain ⟨n', q', e⟩ := st_some hx
    have h1 := h.slot_in e hs
    have h2 := h.tk x n' q' e (s - offA x) (by omega)
    rw [show offA x + (s - offA x) = s by omega, show s = s0 + (s - s0) by omega, hfree (s - s0) (by omega)] at h2
    cases h2
  have hw : ∀ x, (G.head x).isSome = true → ∀ s ∈ slots G x, (newG G s0 n q).word s = G.word s := fun x hx s hs => fillF_out _ _ (hout x hx s hs)
  have hlg : ∀ x, (G.head x).isSome = true → ∀ s ∈ slots G x, (newG G s0 n q).lg s = G.lg s := fun x hx s hs => fillF_out _ _ (fun hc => hout x hx s hs (by omega))
  have hAm : ∀ x, Ac B Z x → Ac B' Z x := fun x hx => by
    rcases hx with hx | hx
    · exact .inl hx
    · exact .inr ((hmf x).2 (.inr hx))
  rw [ha, hB']
  have hlast : B'.last = B.last := by rw [← hB']; rfl
  have hlgL : lgL B' = lgL B := by rw [← hB']; rfl
  refine ⟨⟨fun x n' q' hx => ?_, fun i hi => ?_, h.ok.pd, h.ok.ct⟩, fun x n' q' hx j hj => ?_, fun x y n1 q1 n2 q2 hxy hx hy => ?_, fun x hx => ?_, ?_, fun x hx => ?_, fun x h0 hx => ?_, h.er, fun x hx => by rw [hold]; exact h.z1 x hx, fun x hx => ?_, fun x hx => h.z3 x (by rw [← hlast]; exact hx), fun p hp s hs => ?_, fun k hk r hr => ?_, fun x hx s hs => ?_, by rw [hlgL]; exact h.l1, fun e he => ?_, fun x hx s hs => ?_, fun x hx s hs => ?_⟩
  · by_cases e : x = a
    · subst e
      rw [hha] at hx
      cases hx
      refine ⟨by omega, by omega, hq, hn2⟩
    · rw [hhd x e] at hx
      exact h.ok.hd x n' q' hx
  · show fillF G.word s0 (n + 1) 0 i = 0 ∨ (65536 ≤ fillF G.word s0 (n + 1) 0 i ∧ fillF G.word s0 (n + 1) 0 i < 98304)
    by_cases e : s0 ≤ i ∧ i < s0 + (n + 1)
    · rw [fillF_in _ _ e]; exact .inl rfl
    · rw [fillF_out _ _ e]; exact h.ok.wd i hi
  · show fillF G.tk s0 (1 + n) true (offA x + j) = true
    by_cases e : s0 ≤ offA x + j ∧ offA x + j < s0 + (1 + n)
    · rw [fillF_in _ _ e]
    · rw [fillF_out _ _ e]
      by_cases e2 : x = a
      · subst e2
        rw [hha] at hx
        cases hx
        exact absurd ⟨by omega, by omega⟩ e
      · rw [hhd x e2] at hx
        exact h.tk x n' q' hx j hj
  · -- disjoint
    have key : ∀ x n1 q1, x ≠ a → G.head x = some (n1, q1) → offA x + n1 < s0 ∨ s0 + n < offA x := fun x n1 q1 hxa hx1 => by
      apply Classical.byContradiction
      intro hc
      have t1 := h.tk x n1 q1 hx1
      by_cases e : offA x ≤ s0
      · have := t1 (s0 - offA x) (by omega)
        rw [show offA x + (s0 - offA x) = s0 + 0 by omega, hfree 0 (by omega)] at this
        cases this
      · have := t1 0 (by omega)
        rw [show offA x + 0 = s0 + (offA x - s0) by omega, hfree (offA x - s0) (by omega)] at this
        cases this
    by_cases e1 : x = a
    · subst e1
      rw [hha] at hx
      cases hx
      rw [hhd y (Ne.symm hxy)] at hy
      have := key y n2 q2 (Ne.symm hxy) hy
      rw [hoa]
      omega
    · rw [hhd x e1] at hx
      by_cases e2 : y = a
      · subst e2
        rw [hha] at hy
        cases hy
        have := key x n1 q1 e1 hx
        rw [hoa]
        omega
      · rw [hhd y e2] at hy
        exact h.dj x y n1 q1 n2 q2 hxy hx hy
  · rcases (hmf x).1 hx with rfl | hx
    · rw [hha]; rfl
    · rw [hhd x (fun e => hanf (e ▸ hx))]; exact h.fz x hx
  · rw [hfr.nodup_iff, List.nodup_cons]
    exact ⟨hanf, h.nd⟩
  · rw [hold] at hx
    rw [htot]
    exact h.ce1 x hx
  · rw [hold] at hx
    rw [htot]
    exact h.ce0 x h0 hx
  · rcases h.z2 x hx with h1 | ⟨p, hp, s, hs, e⟩
    · exact .inl (by rw [hlast]; exact h1)
    · exact .inr ⟨p, hp, s, by rw [hsl p (hnA p (.inl hp))]; exact hs, e⟩
  · rw [hsl p (hnA p (.inl hp))] at hs
    exact h.z4 p hp s hs
  · have hr' : r ∈ fup B.roots m (B.roots m ++ [a]) k := by rw [← hB'] at hr; exact hr
    by_cases e : k = m
    · subst e
      rw [fup_self] at hr'
      rcases List.mem_append.1 hr' with h1 | h1
      · exact hAm r (h.y1 k hk r h1)
      · rw [List.mem_singleton.1 h1]; exact .inr ((hmf a).2 (.inl rfl))
    · rw [fup_ne _ _ e] at hr'
      exact hAm r (h.y1 k hk r hr')
  · by_cases e : x = a
    · subst e
      obtain ⟨i, hi, rfl⟩ := mem_slots.1 hs
      rw [(stand_rf hha).1] at hi
      left
      show fillF G.word s0 (n + 1) 0 (offA x + 1 + i) = 0
      rw [fillF_in _ _ (by omega)]
    · have hx' : Ac B Z x := by
        rcases hx with hx | hx
        · exact .inl hx
        · rcases (hmf x).1 hx with h1 | h1
          · exact absurd h1 e
          · exact .inr h1
      rw [hsl x e] at hs
      rw [hw x (h.Ac_st hx') s hs]
      rcases h.y2 x hx' s hs with h1 | h1
      · exact .inl h1
      · exact .inr (hAm _ h1)
  · rw [hlgL] at he
    obtain ⟨p, hp, s, hs, e1, e2, e3⟩ := h.l2 e he
    refine ⟨p, hp, s, by rw [hsl p (hnA p (.inl hp))]; exact hs, e1, e2, ?_⟩
    rw [hlg p (h.Ac_st (.inl hp)) s hs]
    exact e3
  · rw [hold] at hx
    have hxa := hne x hx
    rw [hsl x hxa] at hs
    have hst := (oldB_t.1 hx).1
    rw [hlg x hst s hs, hw x hst s hs, hlgL]
    exact h.l3 x hx s hs
  · by_cases e : x = a
    · subst e
      obtain ⟨i, hi, rfl⟩ := mem_slots.1 hs
      rw [(stand_rf hha).1] at hi
      show fillF G.lg (s0 + 1) q true (offA x + 1 + i) = true
      rw [fillF_in _ _ (by omega)]
    · have hx' : x ∈ frL B := by
        rcases (hmf x).1 hx with h1 | h1
        · exact absurd h1 e
        · exact h1
      rw [hsl x e] at hs
      rw [hlg x (h.fz x hx') s hs]
      exact h.l4 x hx' s hs
theorem CI.mv (h : CI G B atp Z) (hm : Mv G B G' B') : CI G' B' atp Z := by
  have hrt : ∀ {r}, (∃ m', m' < 4 ∧ r ∈ B.roots m') → Ac B Z r := fun ⟨m', h1, h2⟩ => h.y1 m' h1 _ h2
  cases hm with
  | same => exact h
  | push m ref hm hl hh src =>
    refine h.roots _ (fun k hk r hr => ?_)
    have hr' : r ∈ fup B.roots m (B.roots m ++ [ref]) k := hr
    by_cases e : k = m
    · subst e
      rw [fup_self] at hr'
      rcases List.mem_append.1 hr' with h1 | h1
      · exact h.y1 k hk r h1
      · rw [List.mem_singleton.1 h1]
        rcases src with h2 | ⟨m', o, n, q, i, g1, g2, g3, g4, g5, g6⟩
        · exact hrt h2
        · have ha := h.y1 m' g1 o g2
          have hs : offA o + 1 + i ∈ slots G o := mem_slots.2 ⟨i, by rw [(stand_rf g3).1]; exact g4, rfl⟩
          rcases h.y2 o ha _ hs with g7 | g7
          · rw [← g5] at g7; exact absurd g7 g6
          · rw [g5]; exact g7
    · rw [fup_ne _ _ e] at hr'
      exact h.y1 k hk r hr'
  | pop m hm =>
    refine h.roots _ (fun k hk r hr => ?_)
    have hr' : r ∈ fup B.roots m (B.roots m).dropLast k := hr
    by_cases e : k = m
    · subst e
      rw [fup_self] at hr'
      exact h.y1 k hk r (List.dropLast_subset _ hr')
    · rw [fup_ne _ _ e] at hr'
      exact h.y1 k hk r hr'
  | write m o n q i ref hm hr hh hi hf src =>
    refine h.write hm (hrt hr) hh hi ?_
    rcases src with h1 | h1
    · exact .inl h1
    · exact .inr (hrt h1)
  | aloc m n q s hm hl hn hn2 hq hp => exact h.aloc hm hn hn2 hq hp
end
end Go.Proofs.Qxb6500888a
