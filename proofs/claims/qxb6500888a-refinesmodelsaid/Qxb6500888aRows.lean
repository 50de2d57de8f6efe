/-
  No cell of these rows narrows 'for every input' (looked for: loops, veiled, ifaces, maps, wideKeys, modest, calm, conditions, laid).
  DERIVED. THE GIVEN ROWS OF THIS SEAT. 10 by the template 'for every input the law returns true; each argument reads behind the call as it read before'; 0 by the template 'total and deterministic' (their statements: Qxb6500888aTotals.lean).
  GIVEN WITH THE SEED: the statements are not yours to turn. If you find one false, say at which input.
  Laid BY PROGRAM, IN A SANDBOX (cutbox-rows.mjs): the forced cells as the released guide's own fill.sh prints them over the translation f9bd82d5f517dda5… (all of the seat's roots in one cut). By AI agents, Wed Nov 11 2026. No macro, syntax, notation, axiom, sorry.
-/
import Derived.Test.Qxb6500888aChecked
import GoSem.Claim
import GoSem.ClaimJoined
import GoSem.ClaimMapViews
import Derived.JoinedTies
import Derived.KernelRfl
namespace Go.Proofs.Qxb6500888a
/- THE CELL 'sum', in the pinned program and in every row, IS THE sha256 OF THE DUMP (.gsa) THAT Qxb6500888aProg.lean LOADS. Nothing in Lean hashes anything: it is a label: what it is worth is what the hold of that sum in a sandbox is worth. -/
noncomputable def Try.pinned : Pinned := { name := "qxb6500888a", sum := "f9bd82d5f517dda57eb1ba0d2b0d7ef0b2a1b98e78d6088703fd2bd2fbed1086", checked := Try.checked }
namespace Rows
def none {H : Type} : Left H := { results := [], args := [] }

/-- 'barrierlaw.RefinesModel': WHATEVER THE INPUT: true; the input reads as it did. -/
def refinesModelSpec : ChangeSpec := { name := "refinesModel", fn := fun _ => fun
  | [d] => { results := [.lit (.bool true)], args := [d] }
  | _ => none }
def refinesModelRow : OpenClaim := { program := "qxb6500888a", sum := "f9bd82d5f517dda57eb1ba0d2b0d7ef0b2a1b98e78d6088703fd2bd2fbed1086", func := "e2e/barrierlaw.RefinesModel", spec := "refinesModel", unfollowed := true, recurses := true, apart := false }
def RefinesModelSaid : Prop := refinesModelRow.holds Try.pinned (OpenSpec.ofChange refinesModelSpec)

/-- ITS FALSE NEIGHBOUR: 'it returns false'. Refute it at one input. -/
def refinesModelWrong : ChangeSpec := { name := "refinesModel", fn := fun _ => fun
  | [d] => { results := [.lit (.bool false)], args := [d] }
  | _ => none }
def RefinesModelWrongFalsely : Prop := refinesModelRow.holds Try.pinned (OpenSpec.ofChange refinesModelWrong)

/-- 'barrierlaw.EachFieldIsLoggedOnce': WHATEVER THE INPUT: true; the input reads as it did. -/
def eachFieldIsLoggedOnceSpec : ChangeSpec := { name := "eachFieldIsLoggedOnce", fn := fun _ => fun
  | [d] => { results := [.lit (.bool true)], args := [d] }
  | _ => none }
def eachFieldIsLoggedOnceRow : OpenClaim := { program := "qxb6500888a", sum := "f9bd82d5f517dda57eb1ba0d2b0d7ef0b2a1b98e78d6088703fd2bd2fbed1086", func := "e2e/barrierlaw.EachFieldIsLoggedOnce", spec := "eachFieldIsLoggedOnce", unfollowed := true, recurses := true, apart := false }
def EachFieldIsLoggedOnceSaid : Prop := eachFieldIsLoggedOnceRow.holds Try.pinned (OpenSpec.ofChange eachFieldIsLoggedOnceSpec)

/-- ITS FALSE NEIGHBOUR: 'it returns false'. Refute it at one input. -/
def eachFieldIsLoggedOnceWrong : ChangeSpec := { name := "eachFieldIsLoggedOnce", fn := fun _ => fun
  | [d] => { results := [.lit (.bool false)], args := [d] }
  | _ => none }
def EachFieldIsLoggedOnceWrongFalsely : Prop := eachFieldIsLoggedOnceRow.holds Try.pinned (OpenSpec.ofChange eachFieldIsLoggedOnceWrong)

/-- 'barrierlaw.HarvestPairsEachLoggedField': WHATEVER THE INPUT: true; the input reads as it did. -/
def harvestPairsEachLoggedFieldSpec : ChangeSpec := { name := "harvestPairsEachLoggedField", fn := fun _ => fun
  | [d] => { results := [.lit (.bool true)], args := [d] }
  | _ => none }
def harvestPairsEachLoggedFieldRow : OpenClaim := { program := "qxb6500888a", sum := "f9bd82d5f517dda57eb1ba0d2b0d7ef0b2a1b98e78d6088703fd2bd2fbed1086", func := "e2e/barrierlaw.HarvestPairsEachLoggedField", spec := "harvestPairsEachLoggedField", unfollowed := true, recurses := true, apart := false }
def HarvestPairsEachLoggedFieldSaid : Prop := harvestPairsEachLoggedFieldRow.holds Try.pinned (OpenSpec.ofChange harvestPairsEachLoggedFieldSpec)

/-- ITS FALSE NEIGHBOUR: 'it returns false'. Refute it at one input. -/
def harvestPairsEachLoggedFieldWrong : ChangeSpec := { name := "harvestPairsEachLoggedField", fn := fun _ => fun
  | [d] => { results := [.lit (.bool false)], args := [d] }
  | _ => none }
def HarvestPairsEachLoggedFieldWrongFalsely : Prop := harvestPairsEachLoggedFieldRow.holds Try.pinned (OpenSpec.ofChange harvestPairsEachLoggedFieldWrong)

/-- 'barrierlaw.UnreferencedNewObjectsDie': WHATEVER THE INPUT: true; the input reads as it did. -/
def unreferencedNewObjectsDieSpec : ChangeSpec := { name := "unreferencedNewObjectsDie", fn := fun _ => fun
  | [d] => { results := [.lit (.bool true)], args := [d] }
  | _ => none }
def unreferencedNewObjectsDieRow : OpenClaim := { program := "qxb6500888a", sum := "f9bd82d5f517dda57eb1ba0d2b0d7ef0b2a1b98e78d6088703fd2bd2fbed1086", func := "e2e/barrierlaw.UnreferencedNewObjectsDie", spec := "unreferencedNewObjectsDie", unfollowed := true, recurses := true, apart := false }
def UnreferencedNewObjectsDieSaid : Prop := unreferencedNewObjectsDieRow.holds Try.pinned (OpenSpec.ofChange unreferencedNewObjectsDieSpec)

/-- ITS FALSE NEIGHBOUR: 'it returns false'. Refute it at one input. -/
def unreferencedNewObjectsDieWrong : ChangeSpec := { name := "unreferencedNewObjectsDie", fn := fun _ => fun
  | [d] => { results := [.lit (.bool false)], args := [d] }
  | _ => none }
def UnreferencedNewObjectsDieWrongFalsely : Prop := unreferencedNewObjectsDieRow.holds Try.pinned (OpenSpec.ofChange unreferencedNewObjectsDieWrong)

/-- 'barrierlaw.RootsAreDeferred': WHATEVER THE INPUT: true; the input reads as it did. -/
def rootsAreDeferredSpec : ChangeSpec := { name := "rootsAreDeferred", fn := fun _ => fun
  | [d] => { results := [.lit (.bool true)], args := [d] }
  | _ => none }
def rootsAreDeferredRow : OpenClaim := { program := "qxb6500888a", sum := "f9bd82d5f517dda57eb1ba0d2b0d7ef0b2a1b98e78d6088703fd2bd2fbed1086", func := "e2e/barrierlaw.RootsAreDeferred", spec := "rootsAreDeferred", unfollowed := true, recurses := true, apart := false }
def RootsAreDeferredSaid : Prop := rootsAreDeferredRow.holds Try.pinned (OpenSpec.ofChange rootsAreDeferredSpec)

/-- ITS FALSE NEIGHBOUR: 'it returns false'. Refute it at one input. -/
def rootsAreDeferredWrong : ChangeSpec := { name := "rootsAreDeferred", fn := fun _ => fun
  | [d] => { results := [.lit (.bool false)], args := [d] }
  | _ => none }
def RootsAreDeferredWrongFalsely : Prop := rootsAreDeferredRow.holds Try.pinned (OpenSpec.ofChange rootsAreDeferredWrong)

/-- 'barrierlaw.ReachableIsNeverFreed': WHATEVER THE INPUT: true; the input reads as it did. -/
def reachableIsNeverFreedSpec : ChangeSpec := { name := "reachableIsNeverFreed", fn := fun _ => fun
  | [d] => { results := [.lit (.bool true)], args := [d] }
  | _ => none }
def reachableIsNeverFreedRow : OpenClaim := { program := "qxb6500888a", sum := "f9bd82d5f517dda57eb1ba0d2b0d7ef0b2a1b98e78d6088703fd2bd2fbed1086", func := "e2e/barrierlaw.ReachableIsNeverFreed", spec := "reachableIsNeverFreed", unfollowed := true, recurses := true, apart := false }
def ReachableIsNeverFreedSaid : Prop := reachableIsNeverFreedRow.holds Try.pinned (OpenSpec.ofChange reachableIsNeverFreedSpec)

/-- ITS FALSE NEIGHBOUR: 'it returns false'. Refute it at one input. -/
def reachableIsNeverFreedWrong : ChangeSpec := { name := "reachableIsNeverFreed", fn := fun _ => fun
  | [d] => { results := [.lit (.bool false)], args := [d] }
  | _ => none }
def ReachableIsNeverFreedWrongFalsely : Prop := reachableIsNeverFreedRow.holds Try.pinned (OpenSpec.ofChange reachableIsNeverFreedWrong)

/-- 'barrierlaw.CountsAreExact': WHATEVER THE INPUT: true; the input reads as it did. -/
def countsAreExactSpec : ChangeSpec := { name := "countsAreExact", fn := fun _ => fun
  | [d] => { results := [.lit (.bool true)], args := [d] }
  | _ => none }
def countsAreExactRow : OpenClaim := { program := "qxb6500888a", sum := "f9bd82d5f517dda57eb1ba0d2b0d7ef0b2a1b98e78d6088703fd2bd2fbed1086", func := "e2e/barrierlaw.CountsAreExact", spec := "countsAreExact", unfollowed := true, recurses := true, apart := false }
def CountsAreExactSaid : Prop := countsAreExactRow.holds Try.pinned (OpenSpec.ofChange countsAreExactSpec)

/-- ITS FALSE NEIGHBOUR: 'it returns false'. Refute it at one input. -/
def countsAreExactWrong : ChangeSpec := { name := "countsAreExact", fn := fun _ => fun
  | [d] => { results := [.lit (.bool false)], args := [d] }
  | _ => none }
def CountsAreExactWrongFalsely : Prop := countsAreExactRow.holds Try.pinned (OpenSpec.ofChange countsAreExactWrong)

/-- 'barrierlaw.SeedsFollowTheTrace': WHATEVER THE INPUT: true; the input reads as it did. -/
def seedsFollowTheTraceSpec : ChangeSpec := { name := "seedsFollowTheTrace", fn := fun _ => fun
  | [d] => { results := [.lit (.bool true)], args := [d] }
  | _ => none }
def seedsFollowTheTraceRow : OpenClaim := { program := "qxb6500888a", sum := "f9bd82d5f517dda57eb1ba0d2b0d7ef0b2a1b98e78d6088703fd2bd2fbed1086", func := "e2e/barrierlaw.SeedsFollowTheTrace", spec := "seedsFollowTheTrace", unfollowed := true, recurses := true, apart := false }
def SeedsFollowTheTraceSaid : Prop := seedsFollowTheTraceRow.holds Try.pinned (OpenSpec.ofChange seedsFollowTheTraceSpec)

/-- ITS FALSE NEIGHBOUR: 'it returns false'. Refute it at one input. -/
def seedsFollowTheTraceWrong : ChangeSpec := { name := "seedsFollowTheTrace", fn := fun _ => fun
  | [d] => { results := [.lit (.bool false)], args := [d] }
  | _ => none }
def SeedsFollowTheTraceWrongFalsely : Prop := seedsFollowTheTraceRow.holds Try.pinned (OpenSpec.ofChange seedsFollowTheTraceWrong)

/-- 'barrierlaw.RefusalsChangeNothing': WHATEVER THE INPUT: true; the input reads as it did. -/
def refusalsChangeNothingSpec : ChangeSpec := { name := "refusalsChangeNothing", fn := fun _ => fun
  | [d] => { results := [.lit (.bool true)], args := [d] }
  | _ => none }
def refusalsChangeNothingRow : OpenClaim := { program := "qxb6500888a", sum := "f9bd82d5f517dda57eb1ba0d2b0d7ef0b2a1b98e78d6088703fd2bd2fbed1086", func := "e2e/barrierlaw.RefusalsChangeNothing", spec := "refusalsChangeNothing", unfollowed := true, recurses := true, apart := false }
def RefusalsChangeNothingSaid : Prop := refusalsChangeNothingRow.holds Try.pinned (OpenSpec.ofChange refusalsChangeNothingSpec)

/-- ITS FALSE NEIGHBOUR: 'it returns false'. Refute it at one input. -/
def refusalsChangeNothingWrong : ChangeSpec := { name := "refusalsChangeNothing", fn := fun _ => fun
  | [d] => { results := [.lit (.bool false)], args := [d] }
  | _ => none }
def RefusalsChangeNothingWrongFalsely : Prop := refusalsChangeNothingRow.holds Try.pinned (OpenSpec.ofChange refusalsChangeNothingWrong)

/-- 'barrierlaw.SegmentsAreFilledAndReused': WHATEVER THE INPUT: true; the input reads as it did. -/
def segmentsAreFilledAndReusedSpec : ChangeSpec := { name := "segmentsAreFilledAndReused", fn := fun _ => fun
  | [d] => { results := [.lit (.bool true)], args := [d] }
  | _ => none }
def segmentsAreFilledAndReusedRow : OpenClaim := { program := "qxb6500888a", sum := "f9bd82d5f517dda57eb1ba0d2b0d7ef0b2a1b98e78d6088703fd2bd2fbed1086", func := "e2e/barrierlaw.SegmentsAreFilledAndReused", spec := "segmentsAreFilledAndReused", unfollowed := true, recurses := true, apart := false }
def SegmentsAreFilledAndReusedSaid : Prop := segmentsAreFilledAndReusedRow.holds Try.pinned (OpenSpec.ofChange segmentsAreFilledAndReusedSpec)

/-- ITS FALSE NEIGHBOUR: 'it returns false'. Refute it at one input. -/
def segmentsAreFilledAndReusedWrong : ChangeSpec := { name := "segmentsAreFilledAndReused", fn := fun _ => fun
  | [d] => { results := [.lit (.bool false)], args := [d] }
  | _ => none }
def SegmentsAreFilledAndReusedWrongFalsely : Prop := segmentsAreFilledAndReusedRow.holds Try.pinned (OpenSpec.ofChange segmentsAreFilledAndReusedWrong)

end Rows
end Go.Proofs.Qxb6500888a
