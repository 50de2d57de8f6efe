/- The law OrderIsTotal: the plain order's laws, and the walk. -/
import Derived.Test.Qxb6500890aDoorTextStrs
import Derived.Test.Qxb6500890aDoorTextCmp
namespace Go.Proofs.Qxb6500890aDoor
open Go.RowKit
set_option linter.unusedSimpArgs false
set_option linter.unusedVariables false

theorem cmp_refl : ∀ a : List UInt8, cmpL a a = 0
  | [] => rfl
  | x :: a => by simp [cmpL, cmp_refl a]
theorem cmp_neg : ∀ a b : List UInt8, cmpL a b = -cmpL b a
  | [], [] => rfl
  | [], _ :: _ => rfl
  | _ :: _, [] => rfl
  | x :: a, y :: b => by
    simp only [cmpL]
    by_cases h : x.toNat = y.toNat
    · rw [if_pos h, if_pos h.symm]; exact cmp_neg a b
    · rw [if_neg h, if_neg (fun e : y.toNat = x.toNat => h e.symm)]
      by_cases h2 : x.toNat < y.toNat
      · rw [if_pos h2, if_neg (by omega)]
      · rw [if_neg h2, if_pos (by omega)]; rfl
theorem cmp_zero : ∀ a b : List UInt8, cmpL a b = 0 ↔ a = b
  | [], [] => by simp [cmpL]
  | [], _ :: _ => by simp [cmpL]
  | _ :: _, [] => by simp [cmpL]
  | x :: a, y :: b => by
    simp only [cmpL]
    by_cases h : x.toNat = y.toNat
    · rw [if_pos h, cmp_zero a b]
      have : x = y := UInt8.toNat_inj.1 h
      simp [this]
    · rw [if_neg h]
      have : ¬ x = y := fun e => h (by rw [e])
      split <;> simp [this]
theorem cmp_range : ∀ a b : List UInt8, -1 ≤ cmpL a b ∧ cmpL a b ≤ 1
  | [], [] => by simp [cmpL]
  | [], _ :: _ => by simp [cmpL]
  | _ :: _, [] => by simp [cmpL]
  | x :: a, y :: b => by
    simp only [cmpL]
    by_cases h : x.toNat = y.toNat
    · rw [if_pos h]; exact cmp_range a b
    · rw [if_neg h]; split <;> omega
theorem cmp_trans : ∀ a b c : List UInt8, cmpL a b ≤ 0 → cmpL b c ≤ 0 → cmpL a c ≤ 0
  | [], b, [], _, _ => by simp [cmpL]
  | [], b, _ :: _, _, _ => by simp [cmpL]
  | _ :: _, [], _, h, _ => by simp [cmpL] at h
  | x :: a, y :: b, [], _, h => by simp [cmpL] at h
  | x :: a, y :: b, z :: c, h1, h2 => by
    have ih := cmp_trans a b c
    simp only [cmpL] at h1 h2 ⊢
    by_cases e1 : x.toNat = y.toNat
    · rw [if_pos e1] at h1
      by_cases e2 : y.toNat = z.toNat
      · rw [if_pos e2] at h2; rw [if_pos (by omega)]; exact ih h1 h2
      · rw [if_neg e2] at h2
        rw [if_neg (by omega)]
        split at h2
        · rw [if_pos (by omega)]; decide
        · exact absurd h2 (by decide)
    · rw [if_neg e1] at h1
      split at h1
      · by_cases e2 : y.toNat = z.toNat
        · rw [if_neg (by omega), if_pos (by omega)]; decide
        · rw [if_neg e2] at h2
          split at h2
          · rw [if_neg (by omega), if_pos (by omega)]; decide
          · exact absurd h2 (by decide)
      · exact absurd h1 (by decide)

theorem strs_ok (w : World) (l : List TOp) (h : ∀ o ∈ l, OpOk w o) : ∀ s ∈ strsOf l, s.size ≤ 140737488351232 := by
  intro s hs
  simp only [strsOf, List.mem_flatMap] at hs
  obtain ⟨o, ho, hs⟩ := hs
  have hk := h o ho
  simp only [opStrs, List.mem_cons, List.mem_append, List.mem_map] at hs
  rcases hs with rfl | rfl | hs | ⟨r, hr, rfl⟩
  · exact hk.fs
  · exact hk.ft
  · exact hk.fl s hs
  · exact (hk.fr r hr).1

end Go.Proofs.Qxb6500890aDoor
