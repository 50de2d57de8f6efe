/-
  No cell of these rows narrows 'for every input' (looked for: loops, veiled, ifaces, maps, wideKeys, modest, calm, conditions, laid).
  DERIVED. THE GIVEN ROWS OF THIS SEAT. 6 by the template 'for every input the law returns true; each argument reads behind the call as it read before'; 0 by the template 'total and deterministic' (their statements: Qxb6500889aTotals.lean).
  GIVEN WITH THE SEED: the statements are not yours to turn. If you find one false, say at which input.
  Laid BY PROGRAM, IN A SANDBOX (cutbox-rows.mjs): the forced cells as the released guide's own fill.sh prints them over the translation 02b191d0df1232a4… (all of the seat's roots in one cut). By AI agents, Wed Nov 11 2026. No macro, syntax, notation, axiom, sorry.
-/
import Derived.Test.Qxb6500889aChecked
import GoSem.Claim
import GoSem.ClaimJoined
import GoSem.ClaimMapViews
import Derived.JoinedTies
import Derived.KernelRfl
namespace Go.Proofs.Qxb6500889a
/- THE CELL 'sum', in the pinned program and in every row, IS THE sha256 OF THE DUMP (.gsa) THAT Qxb6500889aProg.lean LOADS. Nothing in Lean hashes anything: it is a label: what it is worth is what the hold of that sum in a sandbox is worth. -/
noncomputable def Try.pinned : Pinned := { name := "qxb6500889a", sum := "02b191d0df1232a491202d6d2aab9157359ee680939097470f5143ddf04cfe34", checked := Try.checked }
namespace Rows
def none {H : Type} : Left H := { results := [], args := [] }

/-- 'mutapilaw.RefinesModel': WHATEVER THE INPUT: true; the input reads as it did. -/
def refinesModelSpec : ChangeSpec := { name := "refinesModel", fn := fun _ => fun
  | [d] => { results := [.lit (.bool true)], args := [d] }
  | _ => none }
def refinesModelRow : OpenClaim := { program := "qxb6500889a", sum := "02b191d0df1232a491202d6d2aab9157359ee680939097470f5143ddf04cfe34", func := "e2e/mutapilaw.RefinesModel", spec := "refinesModel", apart := false }
def RefinesModelSaid : Prop := refinesModelRow.holds Try.pinned (OpenSpec.ofChange refinesModelSpec)

/-- ITS FALSE NEIGHBOUR: 'it returns false'. Refute it at one input. -/
def refinesModelWrong : ChangeSpec := { name := "refinesModel", fn := fun _ => fun
  | [d] => { results := [.lit (.bool false)], args := [d] }
  | _ => none }
def RefinesModelWrongFalsely : Prop := refinesModelRow.holds Try.pinned (OpenSpec.ofChange refinesModelWrong)

/-- 'mutapilaw.RefusalsChangeNothing': WHATEVER THE INPUT: true; the input reads as it did. -/
def refusalsChangeNothingSpec : ChangeSpec := { name := "refusalsChangeNothing", fn := fun _ => fun
  | [d] => { results := [.lit (.bool true)], args := [d] }
  | _ => none }
def refusalsChangeNothingRow : OpenClaim := { program := "qxb6500889a", sum := "02b191d0df1232a491202d6d2aab9157359ee680939097470f5143ddf04cfe34", func := "e2e/mutapilaw.RefusalsChangeNothing", spec := "refusalsChangeNothing", apart := false }
def RefusalsChangeNothingSaid : Prop := refusalsChangeNothingRow.holds Try.pinned (OpenSpec.ofChange refusalsChangeNothingSpec)

/-- ITS FALSE NEIGHBOUR: 'it returns false'. Refute it at one input. -/
def refusalsChangeNothingWrong : ChangeSpec := { name := "refusalsChangeNothing", fn := fun _ => fun
  | [d] => { results := [.lit (.bool false)], args := [d] }
  | _ => none }
def RefusalsChangeNothingWrongFalsely : Prop := refusalsChangeNothingRow.holds Try.pinned (OpenSpec.ofChange refusalsChangeNothingWrong)

/-- 'mutapilaw.CollectorStepsChangeNoAnswer': WHATEVER THE INPUT: true; the input reads as it did. -/
def collectorStepsChangeNoAnswerSpec : ChangeSpec := { name := "collectorStepsChangeNoAnswer", fn := fun _ => fun
  | [d] => { results := [.lit (.bool true)], args := [d] }
  | _ => none }
def collectorStepsChangeNoAnswerRow : OpenClaim := { program := "qxb6500889a", sum := "02b191d0df1232a491202d6d2aab9157359ee680939097470f5143ddf04cfe34", func := "e2e/mutapilaw.CollectorStepsChangeNoAnswer", spec := "collectorStepsChangeNoAnswer", apart := false }
def CollectorStepsChangeNoAnswerSaid : Prop := collectorStepsChangeNoAnswerRow.holds Try.pinned (OpenSpec.ofChange collectorStepsChangeNoAnswerSpec)

/-- ITS FALSE NEIGHBOUR: 'it returns false'. Refute it at one input. -/
def collectorStepsChangeNoAnswerWrong : ChangeSpec := { name := "collectorStepsChangeNoAnswer", fn := fun _ => fun
  | [d] => { results := [.lit (.bool false)], args := [d] }
  | _ => none }
def CollectorStepsChangeNoAnswerWrongFalsely : Prop := collectorStepsChangeNoAnswerRow.holds Try.pinned (OpenSpec.ofChange collectorStepsChangeNoAnswerWrong)

/-- 'mutapilaw.HandlesAreNeverGivenTwice': WHATEVER THE INPUT: true; the input reads as it did. -/
def handlesAreNeverGivenTwiceSpec : ChangeSpec := { name := "handlesAreNeverGivenTwice", fn := fun _ => fun
  | [d] => { results := [.lit (.bool true)], args := [d] }
  | _ => none }
def handlesAreNeverGivenTwiceRow : OpenClaim := { program := "qxb6500889a", sum := "02b191d0df1232a491202d6d2aab9157359ee680939097470f5143ddf04cfe34", func := "e2e/mutapilaw.HandlesAreNeverGivenTwice", spec := "handlesAreNeverGivenTwice", apart := false }
def HandlesAreNeverGivenTwiceSaid : Prop := handlesAreNeverGivenTwiceRow.holds Try.pinned (OpenSpec.ofChange handlesAreNeverGivenTwiceSpec)

/-- ITS FALSE NEIGHBOUR: 'it returns false'. Refute it at one input. -/
def handlesAreNeverGivenTwiceWrong : ChangeSpec := { name := "handlesAreNeverGivenTwice", fn := fun _ => fun
  | [d] => { results := [.lit (.bool false)], args := [d] }
  | _ => none }
def HandlesAreNeverGivenTwiceWrongFalsely : Prop := handlesAreNeverGivenTwiceRow.holds Try.pinned (OpenSpec.ofChange handlesAreNeverGivenTwiceWrong)

/-- 'mutapilaw.WhatCanBeNamedIsNeverFreed': WHATEVER THE INPUT: true; the input reads as it did. -/
def whatCanBeNamedIsNeverFreedSpec : ChangeSpec := { name := "whatCanBeNamedIsNeverFreed", fn := fun _ => fun
  | [d] => { results := [.lit (.bool true)], args := [d] }
  | _ => none }
def whatCanBeNamedIsNeverFreedRow : OpenClaim := { program := "qxb6500889a", sum := "02b191d0df1232a491202d6d2aab9157359ee680939097470f5143ddf04cfe34", func := "e2e/mutapilaw.WhatCanBeNamedIsNeverFreed", spec := "whatCanBeNamedIsNeverFreed", apart := false }
def WhatCanBeNamedIsNeverFreedSaid : Prop := whatCanBeNamedIsNeverFreedRow.holds Try.pinned (OpenSpec.ofChange whatCanBeNamedIsNeverFreedSpec)

/-- ITS FALSE NEIGHBOUR: 'it returns false'. Refute it at one input. -/
def whatCanBeNamedIsNeverFreedWrong : ChangeSpec := { name := "whatCanBeNamedIsNeverFreed", fn := fun _ => fun
  | [d] => { results := [.lit (.bool false)], args := [d] }
  | _ => none }
def WhatCanBeNamedIsNeverFreedWrongFalsely : Prop := whatCanBeNamedIsNeverFreedRow.holds Try.pinned (OpenSpec.ofChange whatCanBeNamedIsNeverFreedWrong)

/-- 'mutapilaw.GarbageIsReclaimed': WHATEVER THE INPUT: true; the input reads as it did. -/
def garbageIsReclaimedSpec : ChangeSpec := { name := "garbageIsReclaimed", fn := fun _ => fun
  | [d] => { results := [.lit (.bool true)], args := [d] }
  | _ => none }
def garbageIsReclaimedRow : OpenClaim := { program := "qxb6500889a", sum := "02b191d0df1232a491202d6d2aab9157359ee680939097470f5143ddf04cfe34", func := "e2e/mutapilaw.GarbageIsReclaimed", spec := "garbageIsReclaimed", unfollowed := true, recurses := true, apart := false }
def GarbageIsReclaimedSaid : Prop := garbageIsReclaimedRow.holds Try.pinned (OpenSpec.ofChange garbageIsReclaimedSpec)

/-- ITS FALSE NEIGHBOUR: 'it returns false'. Refute it at one input. -/
def garbageIsReclaimedWrong : ChangeSpec := { name := "garbageIsReclaimed", fn := fun _ => fun
  | [d] => { results := [.lit (.bool false)], args := [d] }
  | _ => none }
def GarbageIsReclaimedWrongFalsely : Prop := garbageIsReclaimedRow.holds Try.pinned (OpenSpec.ofChange garbageIsReclaimedWrong)

end Rows
end Go.Proofs.Qxb6500889a
