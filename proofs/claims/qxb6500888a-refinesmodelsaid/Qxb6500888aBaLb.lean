/- RefinesModel: the walk with New laid in. -/
import Derived.Test.Qxb6500888aBaLa
import Derived.Test.Qxb6500888aBaKk
namespace Go.Proofs.Qxb6500888a
open Go.RowKit

theorem refinesAll_walk (a : Option Addr) (n c : Nat) (l : List OpP) (w : World) (hs : Script w a n c l) :
    Calls Try.prog 3 #[.slice a n c] w fun e w' => e = .returned (.bool true) ∧ Below w.heap.size w w' := refines_walk (fun w => mNew_walk w) a n c l w hs
end Go.Proofs.Qxb6500888a
