/-
  No cell of these rows narrows 'for every input' (looked for: loops, veiled, ifaces, maps, wideKeys, modest, calm, conditions, laid).
  DERIVED. THE GIVEN ROWS OF THIS SEAT. 7 by the template 'for every input the law returns true; each argument reads behind the call as it read before'; 0 by the template 'total and deterministic' (their statements: Qxb6500887aGreatTotals.lean).
  GIVEN WITH THE SEED: the statements are not yours to turn. If you find one false, say at which input.
  Laid BY PROGRAM, IN A SANDBOX (cutbox-rows.mjs): the forced cells as the released guide's own fill.sh prints them over the translation 7fa01b938ff7b546… (all of the seat's roots in one cut). By AI agents, Wed Nov 11 2026. No macro, syntax, notation, axiom, sorry.
-/
import Derived.Test.Qxb6500887aGreatChecked
import GoSem.Claim
import GoSem.ClaimJoined
import GoSem.ClaimMapViews
import Derived.JoinedTies
import Derived.KernelRfl
namespace Go.Proofs.Qxb6500887aGreat
/- THE CELL 'sum', in the pinned program and in every row, IS THE sha256 OF THE DUMP (.gsa) THAT Qxb6500887aGreatProg.lean LOADS. Nothing in Lean hashes anything: it is a label: what it is worth is what the hold of that sum in a sandbox is worth. -/
noncomputable def Tryz.pinned : Pinned := { name := "qxb6500887agreat", sum := "7fa01b938ff7b5462f4c9cac575a7bfcb0871816e7b219f4346ec767ce15db0d", checked := Tryz.checked }
namespace Rows
def none {H : Type} : Left H := { results := [], args := [] }

/-- 'arenalaw.RefinesModel': WHATEVER THE INPUT: true; the input reads as it did. -/
def refinesModelSpec : ChangeSpec := { name := "refinesModel", fn := fun _ => fun
  | [d] => { results := [.lit (.bool true)], args := [d] }
  | _ => none }
def refinesModelRow : OpenClaim := { program := "qxb6500887agreat", sum := "7fa01b938ff7b5462f4c9cac575a7bfcb0871816e7b219f4346ec767ce15db0d", func := "e2e/arenalaw.RefinesModel", spec := "refinesModel", unfollowed := true, recurses := true, apart := false }
def RefinesModelSaid : Prop := refinesModelRow.holds Tryz.pinned (OpenSpec.ofChange refinesModelSpec)

/-- ITS FALSE NEIGHBOUR: 'it returns false'. Refute it at one input. -/
def refinesModelWrong : ChangeSpec := { name := "refinesModel", fn := fun _ => fun
  | [d] => { results := [.lit (.bool false)], args := [d] }
  | _ => none }
def RefinesModelWrongFalsely : Prop := refinesModelRow.holds Tryz.pinned (OpenSpec.ofChange refinesModelWrong)

/-- 'arenalaw.RefusalsAndReadsChangeNothing': WHATEVER THE INPUT: true; the input reads as it did. -/
def refusalsAndReadsChangeNothingSpec : ChangeSpec := { name := "refusalsAndReadsChangeNothing", fn := fun _ => fun
  | [d] => { results := [.lit (.bool true)], args := [d] }
  | _ => none }
def refusalsAndReadsChangeNothingRow : OpenClaim := { program := "qxb6500887agreat", sum := "7fa01b938ff7b5462f4c9cac575a7bfcb0871816e7b219f4346ec767ce15db0d", func := "e2e/arenalaw.RefusalsAndReadsChangeNothing", spec := "refusalsAndReadsChangeNothing", unfollowed := true, recurses := true, apart := false }
def RefusalsAndReadsChangeNothingSaid : Prop := refusalsAndReadsChangeNothingRow.holds Tryz.pinned (OpenSpec.ofChange refusalsAndReadsChangeNothingSpec)

/-- ITS FALSE NEIGHBOUR: 'it returns false'. Refute it at one input. -/
def refusalsAndReadsChangeNothingWrong : ChangeSpec := { name := "refusalsAndReadsChangeNothing", fn := fun _ => fun
  | [d] => { results := [.lit (.bool false)], args := [d] }
  | _ => none }
def RefusalsAndReadsChangeNothingWrongFalsely : Prop := refusalsAndReadsChangeNothingRow.holds Tryz.pinned (OpenSpec.ofChange refusalsAndReadsChangeNothingWrong)

/-- 'arenalaw.ImagesComeBack': WHATEVER THE INPUT: true; the input reads as it did. -/
def imagesComeBackSpec : ChangeSpec := { name := "imagesComeBack", fn := fun _ => fun
  | [d] => { results := [.lit (.bool true)], args := [d] }
  | _ => none }
def imagesComeBackRow : OpenClaim := { program := "qxb6500887agreat", sum := "7fa01b938ff7b5462f4c9cac575a7bfcb0871816e7b219f4346ec767ce15db0d", func := "e2e/arenalaw.ImagesComeBack", spec := "imagesComeBack", unfollowed := true, recurses := true, apart := false }
def ImagesComeBackSaid : Prop := imagesComeBackRow.holds Tryz.pinned (OpenSpec.ofChange imagesComeBackSpec)

/-- ITS FALSE NEIGHBOUR: 'it returns false'. Refute it at one input. -/
def imagesComeBackWrong : ChangeSpec := { name := "imagesComeBack", fn := fun _ => fun
  | [d] => { results := [.lit (.bool false)], args := [d] }
  | _ => none }
def ImagesComeBackWrongFalsely : Prop := imagesComeBackRow.holds Tryz.pinned (OpenSpec.ofChange imagesComeBackWrong)

/-- 'arenalaw.StaleObjectsAreRefused': WHATEVER THE INPUT: true; the input reads as it did. -/
def staleObjectsAreRefusedSpec : ChangeSpec := { name := "staleObjectsAreRefused", fn := fun _ => fun
  | [d] => { results := [.lit (.bool true)], args := [d] }
  | _ => none }
def staleObjectsAreRefusedRow : OpenClaim := { program := "qxb6500887agreat", sum := "7fa01b938ff7b5462f4c9cac575a7bfcb0871816e7b219f4346ec767ce15db0d", func := "e2e/arenalaw.StaleObjectsAreRefused", spec := "staleObjectsAreRefused", unfollowed := true, recurses := true, apart := false }
def StaleObjectsAreRefusedSaid : Prop := staleObjectsAreRefusedRow.holds Tryz.pinned (OpenSpec.ofChange staleObjectsAreRefusedSpec)

/-- ITS FALSE NEIGHBOUR: 'it returns false'. Refute it at one input. -/
def staleObjectsAreRefusedWrong : ChangeSpec := { name := "staleObjectsAreRefused", fn := fun _ => fun
  | [d] => { results := [.lit (.bool false)], args := [d] }
  | _ => none }
def StaleObjectsAreRefusedWrongFalsely : Prop := staleObjectsAreRefusedRow.holds Tryz.pinned (OpenSpec.ofChange staleObjectsAreRefusedWrong)

/-- 'arenalaw.EqualIsEntrywise': WHATEVER THE INPUT: true; the input reads as it did. -/
def equalIsEntrywiseSpec : ChangeSpec := { name := "equalIsEntrywise", fn := fun _ => fun
  | [d] => { results := [.lit (.bool true)], args := [d] }
  | _ => none }
def equalIsEntrywiseRow : OpenClaim := { program := "qxb6500887agreat", sum := "7fa01b938ff7b5462f4c9cac575a7bfcb0871816e7b219f4346ec767ce15db0d", func := "e2e/arenalaw.EqualIsEntrywise", spec := "equalIsEntrywise", unfollowed := true, recurses := true, apart := false }
def EqualIsEntrywiseSaid : Prop := equalIsEntrywiseRow.holds Tryz.pinned (OpenSpec.ofChange equalIsEntrywiseSpec)

/-- ITS FALSE NEIGHBOUR: 'it returns false'. Refute it at one input. -/
def equalIsEntrywiseWrong : ChangeSpec := { name := "equalIsEntrywise", fn := fun _ => fun
  | [d] => { results := [.lit (.bool false)], args := [d] }
  | _ => none }
def EqualIsEntrywiseWrongFalsely : Prop := equalIsEntrywiseRow.holds Tryz.pinned (OpenSpec.ofChange equalIsEntrywiseWrong)

/-- 'arenalaw.ObjectsLieAsTheirHeadersSay': WHATEVER THE INPUT: true; the input reads as it did. -/
def objectsLieAsTheirHeadersSaySpec : ChangeSpec := { name := "objectsLieAsTheirHeadersSay", fn := fun _ => fun
  | [d] => { results := [.lit (.bool true)], args := [d] }
  | _ => none }
def objectsLieAsTheirHeadersSayRow : OpenClaim := { program := "qxb6500887agreat", sum := "7fa01b938ff7b5462f4c9cac575a7bfcb0871816e7b219f4346ec767ce15db0d", func := "e2e/arenalaw.ObjectsLieAsTheirHeadersSay", spec := "objectsLieAsTheirHeadersSay", unfollowed := true, recurses := true, apart := false }
def ObjectsLieAsTheirHeadersSaySaid : Prop := objectsLieAsTheirHeadersSayRow.holds Tryz.pinned (OpenSpec.ofChange objectsLieAsTheirHeadersSaySpec)

/-- ITS FALSE NEIGHBOUR: 'it returns false'. Refute it at one input. -/
def objectsLieAsTheirHeadersSayWrong : ChangeSpec := { name := "objectsLieAsTheirHeadersSay", fn := fun _ => fun
  | [d] => { results := [.lit (.bool false)], args := [d] }
  | _ => none }
def ObjectsLieAsTheirHeadersSayWrongFalsely : Prop := objectsLieAsTheirHeadersSayRow.holds Tryz.pinned (OpenSpec.ofChange objectsLieAsTheirHeadersSayWrong)

/-- 'arenalaw.HolesAreTheFreeLines': WHATEVER THE INPUT: true; the input reads as it did. -/
def holesAreTheFreeLinesSpec : ChangeSpec := { name := "holesAreTheFreeLines", fn := fun _ => fun
  | [d] => { results := [.lit (.bool true)], args := [d] }
  | _ => none }
def holesAreTheFreeLinesRow : OpenClaim := { program := "qxb6500887agreat", sum := "7fa01b938ff7b5462f4c9cac575a7bfcb0871816e7b219f4346ec767ce15db0d", func := "e2e/arenalaw.HolesAreTheFreeLines", spec := "holesAreTheFreeLines", unfollowed := true, recurses := true, apart := false }
def HolesAreTheFreeLinesSaid : Prop := holesAreTheFreeLinesRow.holds Tryz.pinned (OpenSpec.ofChange holesAreTheFreeLinesSpec)

/-- ITS FALSE NEIGHBOUR: 'it returns false'. Refute it at one input. -/
def holesAreTheFreeLinesWrong : ChangeSpec := { name := "holesAreTheFreeLines", fn := fun _ => fun
  | [d] => { results := [.lit (.bool false)], args := [d] }
  | _ => none }
def HolesAreTheFreeLinesWrongFalsely : Prop := holesAreTheFreeLinesRow.holds Tryz.pinned (OpenSpec.ofChange holesAreTheFreeLinesWrong)

end Rows
end Go.Proofs.Qxb6500887aGreat
