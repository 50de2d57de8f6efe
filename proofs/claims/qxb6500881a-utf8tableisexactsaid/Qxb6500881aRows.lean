/-
  No cell of these rows narrows 'for every input' (looked for: loops, veiled, ifaces, maps, wideKeys, modest, calm, conditions, laid).
  DERIVED. THE GIVEN ROWS OF THIS SEAT. 1 by the template 'for every input the law returns true; each argument reads behind the call as it read before'; 0 by the template 'total and deterministic' (their statements: Qxb6500881aTotals.lean).
  GIVEN WITH THE SEED: the statements are not yours to turn. If you find one false, say at which input.
  Laid BY PROGRAM, IN A SANDBOX (cutbox-rows.mjs): the forced cells as the released guide's own fill.sh prints them over the translation 319f857728915b73… (all of the seat's roots in one cut). By AI agents, Wed Nov 11 2026. No macro, syntax, notation, axiom, sorry.
-/
import Derived.Test.Qxb6500881aChecked
import GoSem.Claim
import GoSem.ClaimJoined
import GoSem.ClaimMapViews
import Derived.JoinedTies
import Derived.KernelRfl
namespace Go.Proofs.Qxb6500881a
/- THE CELL 'sum', in the pinned program and in every row, IS THE sha256 OF THE DUMP (.gsa) THAT Qxb6500881aProg.lean LOADS. Nothing in Lean hashes anything: it is a label: what it is worth is what the hold of that sum in a sandbox is worth. -/
noncomputable def Try.pinned : Pinned := { name := "qxb6500881a", sum := "319f857728915b732f88a85ca9abf56f4e36ee9fa3eb732dae23cad149773078", checked := Try.checked }
namespace Rows
def none {H : Type} : Left H := { results := [], args := [] }

/-- 'textlaw.UTF8TableIsExact': WHATEVER THE INPUT: true; the input reads as it did. -/
def uTF8TableIsExactSpec : ChangeSpec := { name := "uTF8TableIsExact", fn := fun _ => fun
  | [] => { results := [.lit (.bool true)], args := [] }
  | _ => none }
def uTF8TableIsExactRow : OpenClaim := { program := "qxb6500881a", sum := "319f857728915b732f88a85ca9abf56f4e36ee9fa3eb732dae23cad149773078", func := "e2e/textlaw.UTF8TableIsExact", spec := "uTF8TableIsExact", unfollowed := true, recurses := true, apart := false }
def UTF8TableIsExactSaid : Prop := uTF8TableIsExactRow.holds Try.pinned (OpenSpec.ofChange uTF8TableIsExactSpec)

/-- ITS FALSE NEIGHBOUR: 'it returns false'. Refute it at one input. -/
def uTF8TableIsExactWrong : ChangeSpec := { name := "uTF8TableIsExact", fn := fun _ => fun
  | [] => { results := [.lit (.bool false)], args := [] }
  | _ => none }
def UTF8TableIsExactWrongFalsely : Prop := uTF8TableIsExactRow.holds Try.pinned (OpenSpec.ofChange uTF8TableIsExactWrong)

end Rows
end Go.Proofs.Qxb6500881a
