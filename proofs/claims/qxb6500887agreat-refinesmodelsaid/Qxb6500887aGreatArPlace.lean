/- placedRightly. -/
import Derived.Test.Qxb6500887aGreatArAddr2
import Derived.Test.Qxb6500887aGreatBlk
import Derived.Deep.DeepCutAuto
namespace Go.Proofs.Qxb6500887aGreat
open Go.RowKit
set_option linter.unusedSimpArgs false
set_option linter.unusedVariables false

/-- The parts of a word's index. -/
structure Parts (k b l r s : Int) : Prop where
  k0 : 0 ≤ k
  k1 : k < 32768
  b0 : 0 ≤ b
  b1 : b < 64
  r0 : 0 ≤ r
  r1 : r < 32
  s0 : 0 ≤ s
  s1 : s < 16
  ek : b * 512 + r * 16 + s = k
  el : l = b * 32 + r
theorem parts_of (k : Int) (h0 : 0 ≤ k) (h1 : k < 32768) : Parts k (k / 512) (k / 16) (k / 16 % 32) (k % 16) := by
  constructor <;> omega

end Go.Proofs.Qxb6500887aGreat
