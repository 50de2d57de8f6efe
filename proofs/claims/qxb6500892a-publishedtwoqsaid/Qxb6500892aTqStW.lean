/- One step of the real engine: the walk (written by tools/mk_tqstep.py). -/
import Derived.Test.Qxb6500892aTqStp
namespace Go.Proofs.Qxb6500892a
open Go.RowKit
set_option linter.unusedSimpArgs false
set_option linter.unusedVariables false

section
variable {w0 : World} {r e gn gb : Nat} {s : ES} {L C : Nat → List Nat} {w : World}
end
end Go.Proofs.Qxb6500892a
