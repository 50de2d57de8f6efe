/-
  No cell of these rows narrows 'for every input' (looked for: loops, veiled, ifaces, maps, wideKeys, modest, calm, conditions, laid).
  DERIVED. THE GIVEN ROWS OF THIS SEAT. 5 by the template 'for every input the law returns true; each argument reads behind the call as it read before'; 0 by the template 'total and deterministic' (their statements: Qxb6500891aTotals.lean).
  GIVEN WITH THE SEED: the statements are not yours to turn. If you find one false, say at which input.
  Laid BY PROGRAM, IN A SANDBOX (cutbox-rows.mjs): the forced cells as the released guide's own fill.sh prints them over the translation 7f9602953462a302… (all of the seat's roots in one cut). By AI agents, Wed Nov 11 2026. No macro, syntax, notation, axiom, sorry.
-/
import Derived.Test.Qxb6500891aChecked
import GoSem.Claim
import GoSem.ClaimJoined
import GoSem.ClaimMapViews
import Derived.JoinedTies
import Derived.KernelRfl
namespace Go.Proofs.Qxb6500891a
/- THE CELL 'sum', in the pinned program and in every row, IS THE sha256 OF THE DUMP (.gsa) THAT Qxb6500891aProg.lean LOADS. Nothing in Lean hashes anything: it is a label: what it is worth is what the hold of that sum in a sandbox is worth. -/
noncomputable def Try.pinned : Pinned := { name := "qxb6500891a", sum := "7f9602953462a302ceb3e1c5b1b2978bd33286b59d579915574b2e7fb8e83971", checked := Try.checked }
namespace Rows
def none {H : Type} : Left H := { results := [], args := [] }

/-- 'pathnamelaw.SlashesAndZero': WHATEVER THE INPUT: true; the input reads as it did. -/
def slashesAndZeroSpec : ChangeSpec := { name := "slashesAndZero", fn := fun _ => fun
  | [d] => { results := [.lit (.bool true)], args := [d] }
  | _ => none }
def slashesAndZeroRow : OpenClaim := { program := "qxb6500891a", sum := "7f9602953462a302ceb3e1c5b1b2978bd33286b59d579915574b2e7fb8e83971", func := "e2e/pathnamelaw.SlashesAndZero", spec := "slashesAndZero", inPlace := ["internal/bytealg.IndexByte"], apart := false }
def SlashesAndZeroSaid : Prop := slashesAndZeroRow.holds Try.pinned (OpenSpec.ofChange slashesAndZeroSpec)

/-- ITS FALSE NEIGHBOUR: 'it returns false'. Refute it at one input. -/
def slashesAndZeroWrong : ChangeSpec := { name := "slashesAndZero", fn := fun _ => fun
  | [d] => { results := [.lit (.bool false)], args := [d] }
  | _ => none }
def SlashesAndZeroWrongFalsely : Prop := slashesAndZeroRow.holds Try.pinned (OpenSpec.ofChange slashesAndZeroWrong)

/-- 'pathnamelaw.StaysInside': WHATEVER THE INPUT: true; the input reads as it did. -/
def staysInsideSpec : ChangeSpec := { name := "staysInside", fn := fun _ => fun
  | [d] => { results := [.lit (.bool true)], args := [d] }
  | _ => none }
def staysInsideRow : OpenClaim := { program := "qxb6500891a", sum := "7f9602953462a302ceb3e1c5b1b2978bd33286b59d579915574b2e7fb8e83971", func := "e2e/pathnamelaw.StaysInside", spec := "staysInside", inPlace := ["internal/bytealg.MakeNoZero", "internal/bytealg.IndexByte"], apart := false }
def StaysInsideSaid : Prop := staysInsideRow.holds Try.pinned (OpenSpec.ofChange staysInsideSpec)

/-- ITS FALSE NEIGHBOUR: 'it returns false'. Refute it at one input. -/
def staysInsideWrong : ChangeSpec := { name := "staysInside", fn := fun _ => fun
  | [d] => { results := [.lit (.bool false)], args := [d] }
  | _ => none }
def StaysInsideWrongFalsely : Prop := staysInsideRow.holds Try.pinned (OpenSpec.ofChange staysInsideWrong)

/-- 'pathnamelaw.HashAndOrder': WHATEVER THE INPUT: true; the input reads as it did. -/
def hashAndOrderSpec : ChangeSpec := { name := "hashAndOrder", fn := fun _ => fun
  | [d] => { results := [.lit (.bool true)], args := [d] }
  | _ => none }
def hashAndOrderRow : OpenClaim := { program := "qxb6500891a", sum := "7f9602953462a302ceb3e1c5b1b2978bd33286b59d579915574b2e7fb8e83971", func := "e2e/pathnamelaw.HashAndOrder", spec := "hashAndOrder", apart := false }
def HashAndOrderSaid : Prop := hashAndOrderRow.holds Try.pinned (OpenSpec.ofChange hashAndOrderSpec)

/-- ITS FALSE NEIGHBOUR: 'it returns false'. Refute it at one input. -/
def hashAndOrderWrong : ChangeSpec := { name := "hashAndOrder", fn := fun _ => fun
  | [d] => { results := [.lit (.bool false)], args := [d] }
  | _ => none }
def HashAndOrderWrongFalsely : Prop := hashAndOrderRow.holds Try.pinned (OpenSpec.ofChange hashAndOrderWrong)

/-- 'pathnamelaw.WalkIsBounded': WHATEVER THE INPUT: true; the input reads as it did. -/
def walkIsBoundedSpec : ChangeSpec := { name := "walkIsBounded", fn := fun _ => fun
  | [d] => { results := [.lit (.bool true)], args := [d] }
  | _ => none }
def walkIsBoundedRow : OpenClaim := { program := "qxb6500891a", sum := "7f9602953462a302ceb3e1c5b1b2978bd33286b59d579915574b2e7fb8e83971", func := "e2e/pathnamelaw.WalkIsBounded", spec := "walkIsBounded", apart := false }
def WalkIsBoundedSaid : Prop := walkIsBoundedRow.holds Try.pinned (OpenSpec.ofChange walkIsBoundedSpec)

/-- ITS FALSE NEIGHBOUR: 'it returns false'. Refute it at one input. -/
def walkIsBoundedWrong : ChangeSpec := { name := "walkIsBounded", fn := fun _ => fun
  | [d] => { results := [.lit (.bool false)], args := [d] }
  | _ => none }
def WalkIsBoundedWrongFalsely : Prop := walkIsBoundedRow.holds Try.pinned (OpenSpec.ofChange walkIsBoundedWrong)

/-- 'pathnamelaw.RestWalksTheSame': WHATEVER THE INPUT: true; the input reads as it did. -/
def restWalksTheSameSpec : ChangeSpec := { name := "restWalksTheSame", fn := fun _ => fun
  | [d] => { results := [.lit (.bool true)], args := [d] }
  | _ => none }
def restWalksTheSameRow : OpenClaim := { program := "qxb6500891a", sum := "7f9602953462a302ceb3e1c5b1b2978bd33286b59d579915574b2e7fb8e83971", func := "e2e/pathnamelaw.RestWalksTheSame", spec := "restWalksTheSame", apart := false }
def RestWalksTheSameSaid : Prop := restWalksTheSameRow.holds Try.pinned (OpenSpec.ofChange restWalksTheSameSpec)

/-- ITS FALSE NEIGHBOUR: 'it returns false'. Refute it at one input. -/
def restWalksTheSameWrong : ChangeSpec := { name := "restWalksTheSame", fn := fun _ => fun
  | [d] => { results := [.lit (.bool false)], args := [d] }
  | _ => none }
def RestWalksTheSameWrongFalsely : Prop := restWalksTheSameRow.holds Try.pinned (OpenSpec.ofChange restWalksTheSameWrong)

end Rows
end Go.Proofs.Qxb6500891a
