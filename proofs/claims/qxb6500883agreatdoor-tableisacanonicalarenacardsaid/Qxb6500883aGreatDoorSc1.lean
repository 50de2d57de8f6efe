/- The small functions of schema: letters, checked arithmetic. -/
import Derived.Test.Qxb6500883aGreatDoorRet
import Derived.Test.Qxb6500883aGreatDoorDrew
import Derived.Test.Qxb6500883aGreatDoorProg
import Derived.Test.Qxb6500883aGreatDoorChecked
import Derived.Deep.DeepCutAuto
namespace Go.Proofs.Qxb6500883aGreatDoor
open Go.RowKit
set_option linter.unusedSimpArgs false
set_option linter.unusedVariables false
/-- Digits, letters, blanks. -/
def dgB (c : Nat) : Bool := decide (48 ≤ c) && decide (c ≤ 57)
def ltB (c : Nat) : Bool := (decide (97 ≤ c) && decide (c ≤ 122)) || (decide (65 ≤ c) && decide (c ≤ 90)) || c == 95
def spB (c : Nat) : Bool := c == 32 || c == 9 || c == 13 || c == 10
def wdB (c : Nat) : Bool := ltB c || dgB c
section
variable {w : World}
theorem isDigitW (c : Nat) (hc : c < 256) (w : World) : Calls Tryz.prog 108 #[.int .u8 (c : Int)] w fun e w' => e = .returned (.bool (dgB c)) ∧ w' = w := by
  unfold dgB
  by_cases h1 : 48 ≤ c
  · by_cases h2 : c ≤ 57
    · rw [decide_eq_true h1, decide_eq_true h2]
      have d1 : decide ((48 : Int) ≤ (c : Int)) = true := decide_eq_true (by omega)
      have d1' : decide (48 ≤ c) = true := decide_eq_true h1
      have d2 : decide ((c : Int) ≤ 57) = true := decide_eq_true (by omega)
      have d2' : decide (c ≤ 57) = true := decide_eq_true h2
      go_enter Tryz.func108, Tryz.ntmps108
      go_wp2
      go_ret
      exact ⟨rfl, rfl⟩
    · rw [decide_eq_true h1, decide_eq_false h2]
      have d1 : decide ((48 : Int) ≤ (c : Int)) = true := decide_eq_true (by omega)
      have d1' : decide (48 ≤ c) = true := decide_eq_true h1
      have d2 : decide ((c : Int) ≤ 57) = false := decide_eq_false (by omega)
      have d2' : decide (c ≤ 57) = false := decide_eq_false h2
      go_enter Tryz.func108, Tryz.ntmps108
      go_wp2
      go_ret
      exact ⟨rfl, rfl⟩
  · rw [decide_eq_false h1]
    have d1 : decide ((48 : Int) ≤ (c : Int)) = false := decide_eq_false (by omega)
    have d1' : decide (48 ≤ c) = false := decide_eq_false h1
    go_enter Tryz.func108, Tryz.ntmps108
    go_wp2
    go_ret
    exact ⟨rfl, rfl⟩
theorem addCheckedW (a b : Nat) (ha : a < 18446744073709551616) (hb : b < 18446744073709551616) (w : World) : Calls Tryz.prog 132 #[.int .u64 (a : Int), .int .u64 (b : Int)] w fun e w' => e = .returned (.tuple #[.int .u64 (((a + b) % 18446744073709551616 : Nat) : Int), .bool (decide (a + b < 18446744073709551616))]) ∧ w' = w := by
  obtain ⟨s, hs⟩ : ∃ s, (a + b) % 18446744073709551616 = s := ⟨_, rfl⟩
  rw [hs]
  have ew : IntKind.u64.wrap ((a : Int) + (b : Int)) = (s : Int) := by rw [IntKind.wrap_u64]; omega
  have hsb : s < 18446744073709551616 := by omega
  obtain ⟨d, hd⟩ : ∃ d, decide (a + b < 18446744073709551616) = d := ⟨_, rfl⟩
  rw [hd]
  have d1 : decide ((a : Int) ≤ (s : Int)) = d := by rw [← hd]; exact decide_eq_decide.2 (by omega)
  have d1' : decide (a ≤ s) = d := by rw [← hd]; exact decide_eq_decide.2 (by omega)
  have d2 : decide ((s : Int) ≥ (a : Int)) = d := d1
  clear hs hd
  go_enter Tryz.func132, Tryz.ntmps132
  go_wp2
  go_ret2
  exact ⟨rfl, rfl⟩
end
end Go.Proofs.Qxb6500883aGreatDoor
