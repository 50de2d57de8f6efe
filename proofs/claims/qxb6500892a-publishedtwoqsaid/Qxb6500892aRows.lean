/-
  No cell of these rows narrows 'for every input' (looked for: loops, veiled, ifaces, maps, wideKeys, modest, calm, conditions, laid).
  DERIVED. THE GIVEN ROWS OF THIS SEAT. 1 by the template 'for every input the law returns true; each argument reads behind the call as it read before'; 0 by the template 'total and deterministic' (their statements: Qxb6500892aTotals.lean).
  GIVEN WITH THE SEED: the statements are not yours to turn. If you find one false, say at which input.
  Laid BY PROGRAM, IN A SANDBOX (cutbox-rows.mjs): the forced cells as the released guide's own fill.sh prints them over the translation ef1f54784d42bdd4… (all of the seat's roots in one cut). By AI agents, Wed Nov 11 2026. No macro, syntax, notation, axiom, sorry.
-/
import Derived.Test.Qxb6500892aChecked
import GoSem.Claim
import GoSem.ClaimJoined
import GoSem.ClaimMapViews
import Derived.JoinedTies
import Derived.KernelRfl
namespace Go.Proofs.Qxb6500892a
/- THE CELL 'sum', in the pinned program and in every row, IS THE sha256 OF THE DUMP (.gsa) THAT Qxb6500892aProg.lean LOADS. Nothing in Lean hashes anything: it is a label: what it is worth is what the hold of that sum in a sandbox is worth. -/
noncomputable def Try.pinned : Pinned := { name := "qxb6500892a", sum := "ef1f54784d42bdd48f44695d89ba49e26560e440476c1f7ba71d53c2d8271e9a", checked := Try.checked }
namespace Rows
def none {H : Type} : Left H := { results := [], args := [] }

/-- 'twoqlaw.PublishedTwoQ': WHATEVER THE INPUT: true; the input reads as it did. -/
def publishedTwoQSpec : ChangeSpec := { name := "publishedTwoQ", fn := fun _ => fun
  | [d] => { results := [.lit (.bool true)], args := [d] }
  | _ => none }
def publishedTwoQRow : OpenClaim := { program := "qxb6500892a", sum := "ef1f54784d42bdd48f44695d89ba49e26560e440476c1f7ba71d53c2d8271e9a", func := "e2e/twoqlaw.PublishedTwoQ", spec := "publishedTwoQ", apart := false }
def PublishedTwoQSaid : Prop := publishedTwoQRow.holds Try.pinned (OpenSpec.ofChange publishedTwoQSpec)

/-- ITS FALSE NEIGHBOUR: 'it returns false'. Refute it at one input. -/
def publishedTwoQWrong : ChangeSpec := { name := "publishedTwoQ", fn := fun _ => fun
  | [d] => { results := [.lit (.bool false)], args := [d] }
  | _ => none }
def PublishedTwoQWrongFalsely : Prop := publishedTwoQRow.holds Try.pinned (OpenSpec.ofChange publishedTwoQWrong)

end Rows
end Go.Proofs.Qxb6500892a
