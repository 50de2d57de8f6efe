/- Compare is a total order, plainly. -/
import Derived.Test.Qxb6500884aClOrd
namespace Go.Proofs.Qxb6500884a
set_option linter.unusedSimpArgs false
set_option linter.unusedVariables false

theorem sgn_rng (n : Int) : -1 ≤ sgn n ∧ sgn n ≤ 1 := by unfold sgn; split <;> (try split) <;> omega
theorem sgn_neg (n : Int) : sgn (-n) = - sgn n := by unfold sgn; split <;> split <;> (try split) <;> (try split) <;> omega
theorem sgn_le (n : Int) : sgn n ≤ 0 ↔ n ≤ 0 := by unfold sgn; split <;> (try split) <;> omega
theorem cmp_rng : ∀ (c d : List (Int × Int)), -1 ≤ cmpIv c d ∧ cmpIv c d ≤ 1
  | [], d => by have : cmpIv [] d = sgn (0 - (d.length : Int)) := by cases d <;> rfl
                rw [this]; exact sgn_rng _
  | p :: c, [] => sgn_rng _
  | p :: c, q :: d => by
    have ih := cmp_rng c d
    simp only [cmpIv]
    split
    · split
      · exact ih
      · exact sgn_rng _
    · exact sgn_rng _
theorem cmp_swap : ∀ (c d : List (Int × Int)), cmpIv c d = - cmpIv d c
  | [], [] => by decide
  | [], q :: d => by
    show sgn (0 - ((q :: d).length : Int)) = - sgn (((q :: d).length : Int) - 0)
    exact (congrArg sgn (by omega)).trans (sgn_neg _)
  | p :: c, [] => by
    show sgn (((p :: c).length : Int) - 0) = - sgn (0 - ((p :: c).length : Int))
    exact (congrArg sgn (by omega)).trans (sgn_neg _)
  | p :: c, q :: d => by
    have ih := cmp_swap c d
    simp only [cmpIv]
    by_cases h1 : p.1 = q.1
    · rw [if_pos h1, if_pos h1.symm]
      by_cases h2 : p.2 = q.2
      · rw [if_pos h2, if_pos h2.symm]
        exact ih
      · rw [if_neg h2, if_neg (fun e => h2 e.symm), ← sgn_neg]
        congr 1
        omega
    · rw [if_neg h1, if_neg (fun e => h1 e.symm), ← sgn_neg]
      congr 1
      omega
theorem cmp_trans : ∀ (c d e : List (Int × Int)), cmpIv c d ≤ 0 → cmpIv d e ≤ 0 → cmpIv c e ≤ 0
  | [], d, e, _, _ => by
    have : cmpIv [] e = sgn (0 - (e.length : Int)) := by cases e <;> rfl
    rw [this, sgn_le]
    omega
  | p :: c, [], e, h1, _ => by
    exfalso
    have h1' : sgn (((p :: c).length : Int) - 0) ≤ 0 := h1
    rw [sgn_le] at h1'
    simp at h1'
    omega
  | p :: c, q :: d, [], _, h2 => by
    exfalso
    have h2' : sgn (((q :: d).length : Int) - 0) ≤ 0 := h2
    rw [sgn_le] at h2'
    simp at h2'
    omega
  | p :: c, q :: d, r :: e, h1, h2 => by
    have ih := cmp_trans c d e
    simp only [cmpIv] at h1 h2 ⊢
    by_cases a1 : p.1 = q.1
    · rw [if_pos a1] at h1
      by_cases b1 : q.1 = r.1
      · rw [if_pos b1] at h2
        rw [if_pos (a1.trans b1)]
        by_cases a2 : p.2 = q.2
        · rw [if_pos a2] at h1
          by_cases b2 : q.2 = r.2
          · rw [if_pos b2] at h2
            rw [if_pos (a2.trans b2)]
            exact ih h1 h2
          · rw [if_neg b2, sgn_le] at h2
            rw [if_neg (fun e => b2 (a2.symm.trans e)), sgn_le]
            omega
        · rw [if_neg a2, sgn_le] at h1
          by_cases b2 : q.2 = r.2
          · rw [if_neg (fun e => a2 (e.trans b2.symm)), sgn_le]
            omega
          · rw [if_neg b2, sgn_le] at h2
            rw [if_neg (by omega), sgn_le]
            omega
      · rw [if_neg b1, sgn_le] at h2
        rw [if_neg (fun e => b1 (a1.symm.trans e)), sgn_le]
        omega
    · rw [if_neg a1, sgn_le] at h1
      by_cases b1 : q.1 = r.1
      · rw [if_neg (fun e => a1 (e.trans b1.symm)), sgn_le]
        omega
      · rw [if_neg b1, sgn_le] at h2
        rw [if_neg (by omega), sgn_le]
        omega
end Go.Proofs.Qxb6500884a
