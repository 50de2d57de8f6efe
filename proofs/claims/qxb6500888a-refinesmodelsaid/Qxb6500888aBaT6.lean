/- The plain machine: a pause, and that it keeps the invariant. -/
import Derived.Test.Qxb6500888aBaT5
namespace Go.Proofs.Qxb6500888a
open Go.RowKit
set_option linter.unusedSimpArgs false
set_option linter.unusedVariables false
/-- What a pause comes to. -/
structure PaF (G : GS) (B : BS) (G' : GS) (B' : BS) (hv : Nat → List Nat) (I : List Nat) : Prop where
  i : I = hv 0 ++ hv 2 ++ hv 4
  h0 : hv 0 = ((lgL B).map fun e => G.word (offA e.1)).filter (fun x => decide (x ≠ 0))
  h1 : hv 1 = ((lgL B).map Prod.snd).filter (fun x => decide (x ≠ 0))
  h2 : hv 2 = rootsK B 4
  h3 : hv 3 = B.last
  n5 : (hv 5).Nodup
  b5 : ∀ x, x ∈ hv 5 ↔ x ∈ frL B ∧ x ∈ I
  b4 : hv 4 = (hv 5).flatMap (refL G)
  h6 : hv 6 = (frL B).filter fun x => decide (x ∉ hv 5)
  ia : ∀ x ∈ I, (G.head x).isSome = true
  cn : ∀ x, G'.cnt x = min 3 (G.cnt x + I.count x)
  pd : ∀ x, G'.pend x = G.pend x + (hv 1).count x + B.last.count x
  ca : G'.calls = G.calls ++ I.map (fun x => (true, x)) ++ (hv 1 ++ B.last).map (fun x => (false, x))
  er : G'.errs = G.errs
  hd : ∀ x, G'.head x = if x ∈ hv 6 then none else G.head x
  kp : ∀ x n q, G.head x = some (n, q) → x ∉ hv 6 → ∀ j, j ≤ n → G'.word (offA x + j) = G.word (offA x + j) ∧ G'.tk (offA x + j) = G.tk (offA x + j)
  kd : ∀ x n q, G.head x = some (n, q) → x ∈ hv 6 → ∀ j, j ≤ n → G'.tk (offA x + j) = false
  lg : ∀ s, s < 32768 → G'.lg s = false
  bl : ∀ m, m < 4 → B'.logs m = []
  bf : ∀ m, m < 4 → B'.fresh m = []
  br : B'.roots = B.roots
  bq : B'.last = rootsK B 4
section
variable {G G' : GS} {B B' : BS} {atp : Nat → Nat} {Z : Nat → Prop} {t : Nat}
theorem rootsK_four (B : BS) : rootsK B 4 = (List.range 4).flatMap B.roots := rfl
theorem CI.ref_Ac (h : CI G B atp Z) : ∀ o, Ac B Z o → ∀ r ∈ refL G o, Ac B Z r := fun o ho r hr => by
  unfold refL refP at hr
  obtain ⟨h1, h2⟩ := List.mem_filter.1 hr
  obtain ⟨i, hi, e⟩ := List.mem_map.1 h1
  have h3 := h.y2 o ho (offA o + 1 + i) (mem_slots.2 ⟨i, List.mem_range.1 hi, rfl⟩)
  rw [e] at h3
  rcases h3 with h4 | h4
  · simp at h2; exact absurd h4 h2
  · exact h4
theorem CI.log_Ac (h : CI G B atp Z) : ∀ e ∈ lgL B, G.word (offA e.1) = 0 ∨ Ac B Z (G.word (offA e.1)) := fun e he => by
  obtain ⟨o, ho, s, hs, e1, e2, e3⟩ := h.l2 e he
  rw [e1, offA_add]
  exact h.y2 o (.inl ho) s hs
theorem CI.fr_cnt (h : CI G B atp Z) {x : Nat} (hx : x ∈ frL B) : G.cnt x = 0 ∧ tot G B atp x = 0 := by
  have hr := h.ok.head_in (h.fz x hx)
  refine h.ce0 x (by omega) ?_
  unfold oldB
  simp [hx]
theorem pause_facts (hI : InvM t G B) (h : CI G B atp Z) : ∃ I, (∀ x ∈ I, Ac B Z x) ∧ PaF G B (pauseP G B).1 (pauseP G B).2.1 (pauseP G B).2.2 I := by
  have hA0 : ∀ o ∈ hv3P G B 0, Ac B Z o := fun o ho => by
    rw [hv3_0l] at ho
    obtain ⟨h1, h2⟩ := List.mem_filter.1 ho
    obtain ⟨e, he, rfl⟩ := List.mem_map.1 h1
    rcases h.log_Ac e he with h3 | h3
    · simp [h3] at h2
    · exact h3
  have hA2 : ∀ o ∈ hv3P G B 2, Ac B Z o := fun o ho => by
    rw [hv3_2] at ho
    obtain ⟨m, hm, hmo⟩ := rootsK_mem ho
    exact h.y1 m hm o hmo
  have hap := apply_spec hI h.ref_Ac hA0 hA2
  obtain ⟨p4, hp4⟩ : ∃ p, applyP (G, hv3P G B) = p := ⟨_, rfl⟩
  rw [hp4] at hap
  have hg := hap.g
  have hhd4 : p4.1.head = G.head := by rw [hg]
  have hw4 : p4.1.word = G.word := by rw [hg]
  have htk4 : p4.1.tk = G.tk := by rw [hg]
  have hpd4 : p4.1.pend = G.pend := by rw [hg]
  have her4 : p4.1.errs = G.errs := by rw [hg]
  have hca4 := congrArg GS.calls hg
  have hdj4 : ∀ a b n q n' q', a ≠ b → p4.1.head a = some (n, q) → p4.1.head b = some (n', q') → offA a + n < offA b ∨ offA b + n' < offA a := by rw [hhd4]; exact h.dj
  have hrp' := reap_spec (G4 := p4.1) (hv := p4.2) B hdj4 h.nd (fun x hx => by rw [hhd4]; exact h.fz x hx)
  obtain ⟨p5, hp5⟩ : ∃ p, reapK B p4 4 = p := ⟨_, rfl⟩
  have hrp : RpI p4.1 p4.2 (frL B) p5 := by rw [← hp5]; exact hrp'
  clear hrp'
  have e22 : (pauseP G B).2.2 = p5.2 := by
    show (reapK B (applyP (G, hv3P G B)) 4).2 = _
    rw [hp4, ← hp5]
  have e1 : (pauseP G B).1 = { decs (decs p5.1 (p5.2 1)) (p5.2 3) with lg := fillF (decs (decs p5.1 (p5.2 1)) (p5.2 3)).lg 0 32768 false } := by
    unfold pauseP
    dsimp only
    rw [show seedH (drK B 4) (hroots (drK B 4) (hvK G B hv00 4)) = hv3P G B from rfl, hp4, hp5]
  have e21 : (pauseP G B).2.1 = { clrF (seedB (drK B 4)) 4 with last := rootsK B 4, ep := B.ep + 1 } := rfl
  have k0 : p5.2 0 = hv3P G B 0 := by rw [hrp.k 0 (by decide), hap.k 0 (by decide) (by decide)]
  have k1 : p5.2 1 = hv3P G B 1 := by rw [hrp.k 1 (by decide), hap.k 1 (by decide) (by decide)]
  have k2 : p5.2 2 = hv3P G B 2 := by rw [hrp.k 2 (by decide), hap.k 2 (by decide) (by decide)]
  have k3 : p5.2 3 = B.last := by rw [hrp.k 3 (by decide), hap.k 3 (by decide) (by decide), hv3_3]
  have k4 : p5.2 4 = p4.2 4 := hrp.k 4 (by decide)
  have k5 : p5.2 5 = p4.2 5 := hrp.k 5 (by decide)
  obtain ⟨I, hIe⟩ : ∃ I, hv3P G B 0 ++ hv3P G B 2 ++ p4.2 4 = I := ⟨_, rfl⟩
  rw [hIe] at hap hca4
  have hb5 : ∀ x, x ∈ p5.2 5 ↔ x ∈ frL B ∧ x ∈ I := fun x => by
    rw [k5, hap.b5]
    constructor
    · rintro ⟨h1, h2⟩
      refine ⟨?_, h2⟩
      rcases hap.a x h2 with h3 | h3
      · have := (h.ce1 x (h.z1 x h3)).1; omega
      · exact h3
    · rintro ⟨h1, h2⟩
      exact ⟨(h.fr_cnt h1).1, h2⟩
  have hz4 : ∀ x, x ∈ frL B → (p4.1.cnt x = 0 ↔ x ∉ p5.2 5) := fun x hx => by
    rw [hap.c x, (h.fr_cnt hx).1, hb5]
    constructor
    · intro h1 h2
      have := List.count_pos_iff.2 h2.2
      omega
    · intro h1
      have : I.count x = 0 := List.count_eq_zero.2 (fun hc => h1 ⟨hx, hc⟩)
      omega
  have h6 : p5.2 6 = (frL B).filter fun x => decide (x ∉ p5.2 5) := by
    rw [hrp.h6, hap.k 6 (by decide) (by decide), hv3_mid G B (i := 6) (by decide) (by decide), List.nil_append]
    refine List.filter_congr (fun x hx => ?_)
    have := hz4 x hx
    by_cases e : p4.1.cnt x = 0
    · simp [e, this.1 e]
    · have e2 : x ∈ p5.2 5 := Classical.byContradiction fun hc => e (this.2 hc)
      simp [e, e2]
  have hm6 : ∀ x, (x ∈ frL B ∧ p4.1.cnt x = 0) ↔ x ∈ p5.2 6 := fun x => by
    rw [h6, List.mem_filter]
    constructor
    · rintro ⟨h1, h2⟩; exact ⟨h1, by simp [(hz4 x h1).1 h2]⟩
    · rintro ⟨h1, h2⟩; exact ⟨h1, (hz4 x h1).2 (by simpa using h2)⟩
  have d1 := decs_all (p5.2 1) p5.1
  have d2 := decs_all (p5.2 3) (decs p5.1 (p5.2 1))
  refine ⟨I, hap.a, ?_⟩
  rw [e22, e1, e21]
  refine ⟨by rw [k0, k2, k4]; exact hIe.symm, by rw [k0, hv3_0l], by rw [k1, hv3_1l], by rw [k2, hv3_2], k3, by rw [k5]; exact hap.n5, hb5, by rw [k4, k5]; exact hap.b4, h6, fun x hx => h.Ac_st (hap.a x hx), fun x => ?_, fun x => ?_, ?_, ?_, fun x => ?_, fun x n q hx hx2 j hj => ?_, fun x n q hx hx2 j hj => ?_, fun s hs => ?_, fun m hm => ?_, fun m hm => ?_, ?_, rfl⟩
  · show (decs (decs p5.1 (p5.2 1)) (p5.2 3)).cnt x = _
    rw [d2.1]
    show (decs p5.1 (p5.2 1)).cnt x = _
    rw [d1.1]
    show p5.1.cnt x = _
    rw [hrp.cn]
    exact hap.c x
  · show (decs (decs p5.1 (p5.2 1)) (p5.2 3)).pend x = _
    rw [d2.2, d1.2, hrp.pd, hpd4, k3]
  · show (decs (decs p5.1 (p5.2 1)) (p5.2 3)).calls = _
    rw [d2.1]
    show (decs p5.1 (p5.2 1)).calls ++ _ = _
    rw [d1.1]
    show p5.1.calls ++ _ ++ _ = _
    rw [hrp.ca, hca4, k3, List.map_append, ← List.append_assoc]
  · show (decs (decs p5.1 (p5.2 1)) (p5.2 3)).errs = _
    rw [d2.1]
    show (decs p5.1 (p5.2 1)).errs = _
    rw [d1.1]
    show p5.1.errs = _
    rw [hrp.er, her4]
  · show (decs (decs p5.1 (p5.2 1)) (p5.2 3)).head x = _
    rw [d2.1]
    show (decs p5.1 (p5.2 1)).head x = _
    rw [d1.1]
    show p5.1.head x = _
    rw [hrp.hd, hhd4]
    by_cases e : x ∈ p5.2 6
    · rw [if_pos ((hm6 x).2 e), if_pos e]
    · rw [if_neg (fun hc => e ((hm6 x).1 hc)), if_neg e]
  · have e : ∀ i, (decs (decs p5.1 (p5.2 1)) (p5.2 3)).word i = p5.1.word i ∧ (decs (decs p5.1 (p5.2 1)) (p5.2 3)).tk i = p5.1.tk i := fun i => by
      rw [d2.1]
      show (decs p5.1 (p5.2 1)).word i = _ ∧ (decs p5.1 (p5.2 1)).tk i = _
      rw [d1.1]
      exact ⟨rfl, rfl⟩
    have h1 := hrp.kp x n q (by rw [hhd4]; exact hx) (fun hc => hx2 ((hm6 x).1 hc)) j hj
    rw [hw4, htk4] at h1
    exact ⟨(e _).1.trans h1.1, (e _).2.trans h1.2⟩
  · have e : ∀ i, (decs (decs p5.1 (p5.2 1)) (p5.2 3)).tk i = p5.1.tk i := fun i => by
      rw [d2.1]
      show (decs p5.1 (p5.2 1)).tk i = _
      rw [d1.1]
    have hm := (hm6 x).2 hx2
    exact (e _).trans (hrp.kd x n q (by rw [hhd4]; exact hx) hm.1 hm.2 j hj)
  · exact fillF_in _ _ (by omega)
  · show (seedB (drK B 4)).logs m = []
    have : (seedB (drK B 4)).logs = (drK B 4).logs := by unfold seedB; split <;> rfl
    rw [this]
    show (if m < 4 then [] else B.logs m) = []
    rw [if_pos hm]
  · show (if m < 4 then [] else (seedB (drK B 4)).fresh m) = []
    rw [if_pos hm]
  · show (seedB (drK B 4)).roots = _
    unfold seedB
    split <;> rfl
/-- What can be reached. -/
inductive Rch (G : GS) (R : List Nat) : Nat → Prop
  | root {r : Nat} (h : r ∈ R) : Rch G R r
  | fld {p s : Nat} (h : Rch G R p) (hs : s ∈ slots G p) (h0 : G.word s ≠ 0) : Rch G R (G.word s)
theorem count_flat_ref (G : GS) {x : Nat} (hx : x ≠ 0) : ∀ l : List Nat, (l.flatMap (refL G)).count x = (l.flatMap (slots G)).countP fun s => decide (G.word s = x)
  | [] => rfl
  | a :: l => by rw [List.flatMap_cons, List.flatMap_cons, List.count_append, List.countP_append, refL_count G a hx, count_flat_ref G hx l]
theorem four_nil {α : Type} {f : Nat → List α} (h : ∀ m, m < 4 → f m = []) : (List.range 4).flatMap f = [] := by
  rw [four_eq, h 0 (by decide), h 1 (by decide), h 2 (by decide), h 3 (by decide)]
  rfl
/-- The logged slots. -/
def lsL (B : BS) : List Nat := (lgL B).map fun e => offA e.1
theorem CI.ls (h : CI G B atp Z) : (lsL B).Nodup ∧ (∀ s ∈ lsL B, s ∈ FS G B) ∧ (∀ s ∈ FS G B, s ∉ lsL B → G.word s = atp s) ∧ (lgL B).map Prod.snd = (lsL B).map atp ∧ ((lgL B).map fun e => G.word (offA e.1)) = (lsL B).map G.word := by
  refine ⟨?_, fun s hs => ?_, fun s hs hn => ?_, ?_, ?_⟩
  · unfold lsL
    have h1 := h.l1
    rw [List.nodup_iff_pairwise_ne, List.pairwise_map] at h1 ⊢
    refine List.Pairwise.imp_of_mem ?_ h1
    intro a b ha hb hne e
    obtain ⟨_, _, s1, _, e1, _⟩ := h.l2 a ha
    obtain ⟨_, _, s2, _, e2, _⟩ := h.l2 b hb
    rw [e1, e2, offA_add, offA_add] at e
    exact hne (by rw [e1, e2, e])
  · obtain ⟨e, he, rfl⟩ := List.mem_map.1 hs
    obtain ⟨o, ho, s, hs', e1, _⟩ := h.l2 e he
    rw [e1, offA_add]
    exact (mem_FS h.ok).2 ⟨o, h.z1 o ho, hs'⟩
  · obtain ⟨a, ha, hsa⟩ := (mem_FS h.ok).1 hs
    refine (h.l3 a ha s hsa).2 ?_
    cases e : G.lg s with
    | false => rfl
    | true =>
      obtain ⟨e1, he1, e2⟩ := (h.l3 a ha s hsa).1 e
      exact absurd (List.mem_map.2 ⟨e1, he1, by rw [e2, offA_add]⟩) hn
  · unfold lsL
    rw [List.map_map]
    refine List.map_congr_left (fun e he => ?_)
    obtain ⟨o, ho, s, hs', e1, e2, _⟩ := h.l2 e he
    show e.2 = atp (offA e.1)
    rw [e1, offA_add, e2]
  · unfold lsL
    rw [List.map_map]
    rfl
theorem perm_part {l r : List Nat} (hl : l.Nodup) (hr : r.Nodup) (hs : ∀ s ∈ r, s ∈ l) : l.Perm (r ++ l.filter fun s => decide (s ∉ r)) := by
  rw [List.perm_ext_iff_of_nodup hl]
  · intro a
    rw [List.mem_append, List.mem_filter]
    constructor
    · intro ha
      by_cases e : a ∈ r
      · exact .inl e
      · exact .inr ⟨ha, by simp [e]⟩
    · rintro (ha | ha)
      · exact hs a ha
      · exact ha.1
  · rw [List.nodup_append]
    refine ⟨hr, List.Pairwise.filter _ hl, fun a ha b hb e => ?_⟩
    have := (List.mem_filter.1 hb).2
    subst e
    simp [ha] at this
/-- Fields now against fields at the last pause. -/
theorem CI.fields (h : CI G B atp Z) {x : Nat} (hx : x ≠ 0) : (FS G B).countP (fun s => decide (G.word s = x)) + (((lgL B).map Prod.snd).filter (fun x => decide (x ≠ 0))).count x = Fn G B atp x + (((lgL B).map fun e => G.word (offA e.1)).filter (fun x => decide (x ≠ 0))).count x := by
  obtain ⟨h1, h2, h3, h4, h5⟩ := h.ls
  have hp := perm_part h.FS_nd h1 h2
  rw [count_filter0 hx, count_filter0 hx, h4, h5, List.count_eq_countP, List.count_eq_countP, List.countP_map, List.countP_map]
  unfold Fn
  rw [hp.countP_eq, hp.countP_eq, List.countP_append, List.countP_append]
  have e : ((FS G B).filter fun s => decide (s ∉ lsL B)).countP (fun s => decide (G.word s = x)) = ((FS G B).filter fun s => decide (s ∉ lsL B)).countP (fun s => decide (atp s = x)) := by
    refine List.countP_congr (fun s hs => ?_)
    obtain ⟨g1, g2⟩ := List.mem_filter.1 hs
    rw [h3 s g1 (by simpa using g2)]
  rw [e]
  have e1 : (lsL B).countP ((fun y => y == x) ∘ atp) = (lsL B).countP (fun s => decide (atp s = x)) := List.countP_congr (fun s _ => by simp)
  have e2 : (lsL B).countP ((fun y => y == x) ∘ G.word) = (lsL B).countP (fun s => decide (G.word s = x)) := List.countP_congr (fun s _ => by simp)
  rw [e1, e2]
  omega
end
end Go.Proofs.Qxb6500888a
