/- quote. -/
import Derived.Test.Qxb6500883aGreatDoorScD
namespace Go.Proofs.Qxb6500883aGreatDoor
open Go.RowKit
set_option linter.unusedSimpArgs false
set_option linter.unusedVariables false
theorem ba_size (a b : ByteArray) : (a ++ b).size = a.size + b.size := ByteArray.size_append
theorem quoteZ (s : ByteArray) (hs : s.size ≤ 140000000000000) (w : World) : Calls Tryz.prog 84 #[.string s] w fun e w' => ∃ t : ByteArray, e = .returned (.string t) ∧ t.size = s.size + 2 ∧ w' = w := by
  have hz : (({ data := #[34] } : ByteArray) ++ s ++ { data := #[34] }).size = s.size + 2 := by
    rw [ba_size, ba_size]; show 1 + s.size + 1 = _; omega
  go_enter Tryz.func84, Tryz.ntmps84
  go_wp2
  go_ret
  exact ⟨_, rfl, by first | exact hz | (simp; omega), rfl⟩
end Go.Proofs.Qxb6500883aGreatDoor
