/- What barrierm.New leaves. -/
import Derived.Test.Qxb6500888aBaK1
namespace Go.Proofs.Qxb6500888a
open Go.RowKit

def M0 : MS := ⟨fun _ => [], [], fun _ => 0, fun _ => false, fun _ => false, false, false⟩
def NmP (w : World) (e : Ending) (w' : World) : Prop := ∃ mB ρ L Y, e = .returned (.pointer (some ⟨mB, 0, none⟩)) ∧ MdM w' ρ L Y G0 M0 ∧ Y.mB = mB ∧ (∀ g, g < w.heap.size → ρ g = 0) ∧ Below w.heap.size w w'
end Go.Proofs.Qxb6500888a
