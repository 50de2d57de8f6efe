/- Words of forms, sorts, operators (written by tools/mk_scd.py). -/
import Derived.Test.Qxb6500883aGreatDoorScC
namespace Go.Proofs.Qxb6500883aGreatDoor
open Go.RowKit
set_option linter.unusedSimpArgs false
set_option linter.unusedVariables false
theorem formWordZ (k : Int) (w : World) : Calls Tryz.prog 94 #[.int .u8 k] w fun e w' => ∃ s : ByteArray, e = .returned (.string s) ∧ s.size ≤ 16 ∧ w' = w := by
  by_cases h3 : k = 3
  · subst h3
    go_enter Tryz.func94, Tryz.ntmps94
    go_wp2
    go_ret
    exact ⟨_, rfl, by decide, rfl⟩
  have d3 : (k == 3) = false := by simpa using h3
  by_cases h4 : k = 4
  · subst h4
    go_enter Tryz.func94, Tryz.ntmps94
    go_wp2
    go_ret
    exact ⟨_, rfl, by decide, rfl⟩
  have d4 : (k == 4) = false := by simpa using h4
  by_cases h5 : k = 5
  · subst h5
    go_enter Tryz.func94, Tryz.ntmps94
    go_wp2
    go_ret
    exact ⟨_, rfl, by decide, rfl⟩
  have d5 : (k == 5) = false := by simpa using h5
  by_cases h6 : k = 6
  · subst h6
    go_enter Tryz.func94, Tryz.ntmps94
    go_wp2
    go_ret
    exact ⟨_, rfl, by decide, rfl⟩
  have d6 : (k == 6) = false := by simpa using h6
  by_cases h7 : k = 7
  · subst h7
    go_enter Tryz.func94, Tryz.ntmps94
    go_wp2
    go_ret
    exact ⟨_, rfl, by decide, rfl⟩
  have d7 : (k == 7) = false := by simpa using h7
  by_cases h1 : k = 1
  · subst h1
    go_enter Tryz.func94, Tryz.ntmps94
    go_wp2
    go_ret
    exact ⟨_, rfl, by decide, rfl⟩
  have d1 : (k == 1) = false := by simpa using h1
  clear h3 h4 h5 h6 h7 h1
  go_enter Tryz.func94, Tryz.ntmps94
  go_wp2
  go_ret
  exact ⟨_, rfl, by decide, rfl⟩
theorem sortWordZ (k : Int) (w : World) : Calls Tryz.prog 85 #[.int .u8 k] w fun e w' => ∃ s : ByteArray, e = .returned (.string s) ∧ s.size ≤ 16 ∧ w' = w := by
  by_cases h0 : k = 0
  · subst h0
    go_enter Tryz.func85, Tryz.ntmps85
    go_wp2
    go_ret
    exact ⟨_, rfl, by decide, rfl⟩
  have d0 : (k == 0) = false := by simpa using h0
  by_cases h1 : k = 1
  · subst h1
    go_enter Tryz.func85, Tryz.ntmps85
    go_wp2
    go_ret
    exact ⟨_, rfl, by decide, rfl⟩
  have d1 : (k == 1) = false := by simpa using h1
  by_cases h2 : k = 2
  · subst h2
    go_enter Tryz.func85, Tryz.ntmps85
    go_wp2
    go_ret
    exact ⟨_, rfl, by decide, rfl⟩
  have d2 : (k == 2) = false := by simpa using h2
  by_cases h3 : k = 3
  · subst h3
    go_enter Tryz.func85, Tryz.ntmps85
    go_wp2
    go_ret
    exact ⟨_, rfl, by decide, rfl⟩
  have d3 : (k == 3) = false := by simpa using h3
  clear h0 h1 h2 h3
  go_enter Tryz.func85, Tryz.ntmps85
  go_wp2
  go_ret
  exact ⟨_, rfl, by decide, rfl⟩
theorem operatorTextZ (k : Int) (w : World) : Calls Tryz.prog 146 #[.int .u8 k] w fun e w' => ∃ s : ByteArray, e = .returned (.string s) ∧ s.size ≤ 16 ∧ w' = w := by
  by_cases h2 : k = 2
  · subst h2
    go_enter Tryz.func146, Tryz.ntmps146
    go_wp2
    go_ret
    exact ⟨_, rfl, by decide, rfl⟩
  have d2 : (k == 2) = false := by simpa using h2
  by_cases h3 : k = 3
  · subst h3
    go_enter Tryz.func146, Tryz.ntmps146
    go_wp2
    go_ret
    exact ⟨_, rfl, by decide, rfl⟩
  have d3 : (k == 3) = false := by simpa using h3
  by_cases h4 : k = 4
  · subst h4
    go_enter Tryz.func146, Tryz.ntmps146
    go_wp2
    go_ret
    exact ⟨_, rfl, by decide, rfl⟩
  have d4 : (k == 4) = false := by simpa using h4
  by_cases h5 : k = 5
  · subst h5
    go_enter Tryz.func146, Tryz.ntmps146
    go_wp2
    go_ret
    exact ⟨_, rfl, by decide, rfl⟩
  have d5 : (k == 5) = false := by simpa using h5
  by_cases h6 : k = 6
  · subst h6
    go_enter Tryz.func146, Tryz.ntmps146
    go_wp2
    go_ret
    exact ⟨_, rfl, by decide, rfl⟩
  have d6 : (k == 6) = false := by simpa using h6
  clear h2 h3 h4 h5 h6
  go_enter Tryz.func146, Tryz.ntmps146
  go_wp2
  go_ret
  exact ⟨_, rfl, by decide, rfl⟩
end Go.Proofs.Qxb6500883aGreatDoor
