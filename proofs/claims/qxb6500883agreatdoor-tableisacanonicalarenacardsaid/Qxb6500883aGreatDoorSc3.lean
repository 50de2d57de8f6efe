/- mulChecked, mulBytes, ceilLog2. -/
import Derived.Test.Qxb6500883aGreatDoorSc2
namespace Go.Proofs.Qxb6500883aGreatDoor
open Go.RowKit
set_option linter.unusedSimpArgs false
set_option linter.unusedVariables false
theorem mul_back {a b M : Nat} (ha : 1 ≤ a) (haM : a ≤ M) : (a * b % M) / a = b ↔ a * b < M := by
  constructor
  · intro h
    by_cases hl : a * b < M
    · exact hl
    · exfalso
      have h1 : a * b % M ≤ a * b - M := by
        have := Nat.div_add_mod (a * b) M
        have hk : 1 ≤ a * b / M := Nat.div_pos (by omega) (by omega)
        have : M * 1 ≤ M * (a * b / M) := Nat.mul_le_mul_left _ hk
        omega
      have h2 : (a * b % M) / a < b := by
        refine Nat.div_lt_of_lt_mul ?_
        omega
      omega
  · intro h
    rw [Nat.mod_eq_of_lt h]
    exact Nat.mul_div_cancel_left _ (by omega)
theorem mulCheckedW (a b : Nat) (ha : a < 18446744073709551616) (hb : b < 18446744073709551616) (w : World) : Calls Tryz.prog 131 #[.int .u64 (a : Int), .int .u64 (b : Int)] w fun e w' => e = .returned (.tuple #[.int .u64 ((a * b % 18446744073709551616 : Nat) : Int), .bool (decide (a * b < 18446744073709551616))]) ∧ Drew w w' := by
  by_cases h0 : a = 0
  · subst h0
    rw [Nat.zero_mul]
    go_enter Tryz.func131, Tryz.ntmps131
    go_wp2
    go_ret2
    exact ⟨rfl, Drew.refl _⟩
  · have hb1 := mul_back (a := a) (b := b) (M := 18446744073709551616) (by omega) (by omega)
    obtain ⟨m, hm⟩ : ∃ m, a * b % 18446744073709551616 = m := ⟨_, rfl⟩
    obtain ⟨q, hq⟩ : ∃ q, m / a = q := ⟨_, rfl⟩
    obtain ⟨d, hd⟩ : ∃ d, decide (a * b < 18446744073709551616) = d := ⟨_, rfl⟩
    rw [hm, hq] at hb1
    rw [hm, hd]
    have hmb : m < 18446744073709551616 := by rw [← hm]; exact Nat.mod_lt _ (by decide)
    have ew : IntKind.u64.wrap ((a : Int) * (b : Int)) = (m : Int) := by rw [IntKind.wrap_u64, ← hm]; rfl
    have eq : (m : Int) / (a : Int) = (q : Int) := by rw [← hq]; exact (Int.natCast_ediv m a).symm
    have hqb : q ≤ m := by rw [← hq]; exact Nat.div_le_self _ _
    have d0 : ((a : Int) == 0) = false := by simp; omega
    have d1 : ((q : Int) == (b : Int)) = d := by
      rw [← hd]
      by_cases hqb : q = b
      · rw [decide_eq_true (hb1.1 hqb)]; simp [hqb]
      · rw [decide_eq_false (fun h => hqb (hb1.2 h))]; simp; omega
    have d1' : (q == b) = d := by rw [← d1]; exact Bool.eq_iff_iff.2 (by simp; omega)
    clear hm hq hd hb1
    go_enter Tryz.func131, Tryz.ntmps131
    go_upto_region 4 with fail
    go_region
    go_wp2
    go_ret2
    exact ⟨rfl, ⟨1, rfl⟩⟩
/-- mulBytes: within MaxBytes. -/
def mbV (a b : Nat) : Nat := if a * b ≤ 4294967295 then a * b else 0
theorem mulBytesW (a b : Nat) (ha : a < 18446744073709551616) (hb : b < 18446744073709551616) (w : World) : Calls Tryz.prog 151 #[.int .u64 (a : Int), .int .u64 (b : Int)] w fun e w' => e = .returned (.tuple #[.int .u64 ((mbV a b : Nat) : Int), .bool (decide (a * b ≤ 4294967295))]) ∧ Drew w w' := by
  unfold mbV
  have HM := hid (mulCheckedW a b ha hb w)
  by_cases h1 : a * b < 18446744073709551616
  · rw [decide_eq_true h1, Nat.mod_eq_of_lt h1] at HM
    obtain ⟨m, hm⟩ : ∃ m, a * b = m := ⟨_, rfl⟩
    rw [hm] at HM h1 ⊢
    clear hm
    by_cases h2 : m ≤ 4294967295
    · rw [if_pos h2, decide_eq_true h2]
      have d1 : decide ((m : Int) > 4294967295) = false := decide_eq_false (by omega)
      have d2 : decide ((4294967295 : Int) < (m : Int)) = false := decide_eq_false (by omega)
      have d3 : decide (4294967295 < m) = false := decide_eq_false (by omega)
      go_enter Tryz.func151, Tryz.ntmps151
      (go_wp2_with fail; refine HM.out.mono ?_; rintro e_ w_ ⟨he_, hw_⟩; subst he_; have HW := hid hw_; clear hw_)
      go_wp2
      go_ret2
      exact ⟨rfl, HW.out⟩
    · rw [if_neg h2, decide_eq_false h2]
      have d1 : decide ((m : Int) > 4294967295) = true := decide_eq_true (by omega)
      have d2 : decide ((4294967295 : Int) < (m : Int)) = true := decide_eq_true (by omega)
      have d3 : decide (4294967295 < m) = true := decide_eq_true (by omega)
      go_enter Tryz.func151, Tryz.ntmps151
      (go_wp2_with fail; refine HM.out.mono ?_; rintro e_ w_ ⟨he_, hw_⟩; subst he_; have HW := hid hw_; clear hw_)
      go_wp2
      go_ret2
      exact ⟨rfl, HW.out⟩
  · rw [decide_eq_false h1] at HM
    rw [if_neg (by omega), decide_eq_false (by omega)]
    generalize a * b % 18446744073709551616 = m at HM
    go_enter Tryz.func151, Tryz.ntmps151
    (go_wp2_with fail; refine HM.out.mono ?_; rintro e_ w_ ⟨he_, hw_⟩; subst he_; have HW := hid hw_; clear hw_)
    go_wp2
    go_ret2
    exact ⟨rfl, HW.out⟩
end Go.Proofs.Qxb6500883aGreatDoor
