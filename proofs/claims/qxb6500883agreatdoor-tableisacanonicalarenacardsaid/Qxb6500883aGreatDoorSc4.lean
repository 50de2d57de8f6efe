/- ceilLog2, powChecked. -/
import Derived.Test.Qxb6500883aGreatDoorSc3
namespace Go.Proofs.Qxb6500883aGreatDoor
open Go.RowKit
set_option linter.unusedSimpArgs false
set_option linter.unusedVariables false
set_option maxRecDepth 100000 in
theorem ceilLog2W (n : Nat) (hn : n < 18446744073709551616) (w : World) : Calls Tryz.prog 153 #[.int .u64 (n : Int)] w fun e w' => ∃ d : Nat, e = .returned (.int .i64 (d : Int)) ∧ d ≤ 64 ∧ Hid (n ≤ 2 ^ d ∧ ∀ j, j < d → 2 ^ j < n) ∧ w' = w := by
  go_enter Tryz.func153, Tryz.ntmps153
  go_upto_region 2 with fail
  go_loopw [3] (fun u wr => ∃ d : Nat, u = .int .i64 (d : Int) ∧ d ≤ 64 ∧ Hid (∀ j, j < d → 2 ^ j < n) ∧ wr = w) (fun u _ => 64 - (intOf u).toNat)
  case atStart => exact ⟨0, rfl, by omega, hid (fun j hj => absurd hj (Nat.not_lt_zero _)), rfl⟩
  case round =>
  obtain ⟨d, rfl, hd, HJ, hw⟩ := hrel
  subst hw
  by_cases h1 : d < 64
  rotate_left
  · as_aux_lemma =>
    have d1 : decide ((d : Int) < 64) = false := decide_eq_false (by omega)
    have d1' : decide (d < 64) = false := decide_eq_false h1
    have HF : Hid (n ≤ 2 ^ d) := hid (by rw [show d = 64 by omega]; exact Nat.le_of_lt hn)
    go_wp2
    go_ret
    exact ⟨d, rfl, hd, hid ⟨HF.out, HJ.out⟩, rfl⟩
  have d1 : decide ((d : Int) < 64) = true := decide_eq_true (by omega)
  have d1' : decide (d < 64) = true := decide_eq_true h1
  obtain ⟨p, hp⟩ : ∃ p, 2 ^ d = p := ⟨_, rfl⟩
  have hpb : p < 18446744073709551616 := by rw [← hp]; exact Nat.pow_lt_pow_right (by omega) h1
  have e0 : (2 : Int) ^ d = (p : Int) := by rw [← hp]; exact (Int.natCast_pow 2 d).symm
  have e1 : IntKind.u64.wrap ((2 : Int) ^ d) = (p : Int) := by rw [e0, IntKind.wrap_u64]; omega
  have e2 : IntKind.u64.wrap (1 * (2 : Int) ^ d) = (p : Int) := by rw [Int.one_mul]; exact e1
  by_cases h2 : p < n
  · as_aux_lemma =>
    have d2 : decide ((p : Int) < (n : Int)) = true := decide_eq_true (by omega)
    have d2' : decide (p < n) = true := decide_eq_true h2
    have HF : Hid (∀ j, j < d + 1 → 2 ^ j < n) := hid (fun j hj => by
      by_cases e : j = d
      · rw [e, hp]; exact h2
      · exact HJ.out j (by omega))
    clear hp HJ
    go_wp2
    exact ⟨⟨d + 1, by go_num, by omega, HF, (by first | rfl | trivial)⟩, by simp [intOf]; omega⟩
  · as_aux_lemma =>
    have d2 : decide ((p : Int) < (n : Int)) = false := decide_eq_false (by omega)
    have d2' : decide (p < n) = false := decide_eq_false h2
    have HF : Hid (n ≤ 2 ^ d) := hid (by rw [hp]; omega)
    clear hp
    go_wp2
    go_ret
    exact ⟨d, rfl, hd, hid ⟨HF.out, HJ.out⟩, rfl⟩
end Go.Proofs.Qxb6500883aGreatDoor
