/- Subset, overlap and equality of normal lists, by their members. No Go here. -/
import Derived.Test.Qxb6500884aClSub
import Derived.Test.Qxb6500884aClOvl
import Derived.Test.Qxb6500884aClBit
import Derived.Test.Qxb6500884aClNorm
namespace Go.Proofs.Qxb6500884a
set_option linter.unusedSimpArgs false
set_option linter.unusedVariables false

theorem memB_cons (p : Int × Int) (l : List (Int × Int)) (x : Int) : memB (p :: l) x = ((decide (p.1 ≤ x) && decide (x ≤ p.2)) || memB l x) := by unfold memB; rw [List.any_cons]
theorem Nrm.notail {p : Int × Int} {l : List (Int × Int)} (h : Nrm (p :: l)) {x : Int} (hx : x ≤ p.2 + 1) : memB l x = false := by
  rw [Bool.eq_false_iff]
  intro hm
  obtain ⟨q, hq, h1, h2⟩ := memB_iff.1 hm
  have := h.head_lt q hq
  omega
theorem Nrm.lowM {p : Int × Int} {l : List (Int × Int)} (h : Nrm (p :: l)) {x : Int} (hm : memB (p :: l) x = true) : p.1 ≤ x := by
  obtain ⟨q, hq, h1, h2⟩ := memB_iff.1 hm
  rcases List.mem_cons.1 hq with h3 | h3
  · rw [← h3]; exact h1
  · have h4 := h.head_lt q h3
    have h5 := h.rng p (by simp)
    omega
theorem nrm_ext : ∀ (c d : List (Int × Int)), Nrm c → Nrm d → (∀ x, memB c x = memB d x) → c = d
  | [], [], _, _, _ => rfl
  | [], q :: d, _, hd, h => by
    have h1 := hd.rng q (by simp)
    have h2 := h q.1
    rw [memB_cons, decide_eq_true (Int.le_refl _), decide_eq_true h1.2.1] at h2
    cases h2
  | p :: c, [], hc, _, h => by
    have h1 := hc.rng p (by simp)
    have h2 := h p.1
    rw [memB_cons, decide_eq_true (Int.le_refl _), decide_eq_true h1.2.1] at h2
    cases h2
  | p :: c, q :: d, hc, hd, h => by
    have hp := hc.rng p (by simp)
    have hq := hd.rng q (by simp)
    have mp : ∀ x, p.1 ≤ x → x ≤ p.2 → memB (p :: c) x = true := fun x h1 h2 => by rw [memB_cons, decide_eq_true h1, decide_eq_true h2]; rfl
    have mq : ∀ x, q.1 ≤ x → x ≤ q.2 → memB (q :: d) x = true := fun x h1 h2 => by rw [memB_cons, decide_eq_true h1, decide_eq_true h2]; rfl
    have e1 : p.1 = q.1 := by
      have h1 := hd.lowM (by rw [← h]; exact mp p.1 (Int.le_refl _) hp.2.1)
      have h2 := hc.lowM (by rw [h]; exact mq q.1 (Int.le_refl _) hq.2.1)
      omega
    have e2 : p.2 = q.2 := by
      rcases Int.lt_trichotomy p.2 q.2 with h1 | h1 | h1
      · exfalso
        have h2 := mq (p.2 + 1) (by omega) (by omega)
        rw [← h, memB_cons, decide_eq_false (show ¬ p.2 + 1 ≤ p.2 by omega), Bool.and_false, Bool.false_or, hc.notail (Int.le_refl _)] at h2
        cases h2
      · exact h1
      · exfalso
        have h2 := mp (q.2 + 1) (by omega) (by omega)
        rw [h, memB_cons, decide_eq_false (show ¬ q.2 + 1 ≤ q.2 by omega), Bool.and_false, Bool.false_or, hd.notail (Int.le_refl _)] at h2
        cases h2
    have e3 : p = q := Prod.ext e1 e2
    subst e3
    rw [nrm_ext c d hc.tail hd.tail (fun x => ?_)]
    by_cases hx : x ≤ p.2
    · rw [hc.notail (by omega), hd.notail (by omega)]
    · have h1 := h x
      rw [memB_cons, memB_cons, decide_eq_false hx, Bool.and_false, Bool.false_or, Bool.false_or] at h1
      exact h1
theorem nrm_ext2 {c d : List (Int × Int)} (hc : Nrm c) (hd : Nrm d) (h : ∀ x, 0 ≤ x → x ≤ 196607 → memB c x = memB d x) : c = d := nrm_ext c d hc hd (fun x => by
  by_cases hx : 0 ≤ x ∧ x ≤ 196607
  · exact h x hx.1 hx.2
  · rw [hc.out (by omega), hd.out (by omega)])
theorem sub_iff {c d : List (Int × Int)} (hc : Nrm c) (hd : Nrm d) : subB c d = true ↔ ∀ x, 0 ≤ x → x ≤ 196607 → memB c x = true → memB d x = true := by
  constructor
  · intro h x h0 h1 hm
    obtain ⟨p, hp, h2, h3⟩ := memB_iff.1 hm
    obtain ⟨q, hq, h4, h5⟩ := subB_iff.1 h p hp
    exact memB_iff.2 ⟨q, hq, by omega, by omega⟩
  · intro h
    rw [subB_iff]
    intro p hp
    have hr := hc.rng p hp
    have mem : ∀ x, p.1 ≤ x → x ≤ p.2 → memB d x = true := fun x h1 h2 => h x (by omega) (by omega) (memB_iff.2 ⟨p, hp, h1, h2⟩)
    obtain ⟨q, hq, h1, h2⟩ := memB_iff.1 (mem p.1 (Int.le_refl _) hr.2.1)
    refine ⟨q, hq, h1, ?_⟩
    rcases Int.lt_or_le q.2 p.2 with h3 | h3
    · exfalso
      obtain ⟨q', hq', h4, h5⟩ := memB_iff.1 (mem (q.2 + 1) (by omega) (by omega))
      obtain ⟨i, hi⟩ := List.mem_iff_getElem?.1 hq
      obtain ⟨j, hj⟩ := List.mem_iff_getElem?.1 hq'
      rcases Nat.lt_trichotomy i j with h6 | h6 | h6
      · have := hd.later h6 hi hj; omega
      · subst h6
        rw [hi] at hj
        cases hj
        omega
      · have := hd.later h6 hj hi
        have := hd.rng q hq
        omega
    · exact h3
theorem ov_iff {c d : List (Int × Int)} (hc : Nrm c) (hd : Nrm d) : ovB c d = true ↔ ∃ x, 0 ≤ x ∧ x ≤ 196607 ∧ memB c x = true ∧ memB d x = true := by
  rw [ovB_iff]
  constructor
  · rintro ⟨p, hp, q, hq, h1, h2⟩
    have hr := hc.rng p hp
    have hs := hd.rng q hq
    by_cases h3 : p.1 ≤ q.1
    · exact ⟨q.1, by omega, by omega, memB_iff.2 ⟨p, hp, h3, h2⟩, memB_iff.2 ⟨q, hq, Int.le_refl _, hs.2.1⟩⟩
    · exact ⟨p.1, by omega, by omega, memB_iff.2 ⟨p, hp, Int.le_refl _, hr.2.1⟩, memB_iff.2 ⟨q, hq, by omega, h1⟩⟩
  · rintro ⟨x, _, _, h1, h2⟩
    obtain ⟨p, hp, h3, h4⟩ := memB_iff.1 h1
    obtain ⟨q, hq, h5, h6⟩ := memB_iff.1 h2
    exact ⟨p, hp, q, hq, by omega, by omega⟩
end Go.Proofs.Qxb6500884a
