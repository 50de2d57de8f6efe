/- newReal; what a step leaves alone. -/
import Derived.Test.Qxb6500892aTqLook
namespace Go.Proofs.Qxb6500892a
open Go.RowKit
set_option linter.unusedSimpArgs false
set_option linter.unusedVariables false

/-- The default configuration lies in its variable. -/
structure Dflt (w : World) : Prop where
  lt : 0 < w.heap.size
  c0 : w.cell? ⟨0, 0, none⟩ = some (.int .i64 48)
  c1 : w.cell? ⟨0, 1, none⟩ = some (.int .i64 12)
  c2 : w.cell? ⟨0, 2, none⟩ = some (.int .i64 24)
  c3 : w.cell? ⟨0, 3, none⟩ = some (.int .i64 8)
end Go.Proofs.Qxb6500892a
