/-
  No cell of these rows narrows 'for every input' (looked for: loops, veiled, ifaces, maps, wideKeys, modest, calm, conditions, laid).
  DERIVED. THE GIVEN ROWS OF THIS SEAT. 6 by the template 'for every input the law returns true; each argument reads behind the call as it read before'; 0 by the template 'total and deterministic' (their statements: Qxb6500887aTotals.lean).
  GIVEN WITH THE SEED: the statements are not yours to turn. If you find one false, say at which input.
  Laid BY PROGRAM, IN A SANDBOX (cutbox-rows.mjs): the forced cells as the released guide's own fill.sh prints them over the translation db1331145ced23a4… (all of the seat's roots in one cut). By AI agents, Wed Nov 11 2026. No macro, syntax, notation, axiom, sorry.
-/
import Derived.Test.Qxb6500887aChecked
import GoSem.Claim
import GoSem.ClaimJoined
import GoSem.ClaimMapViews
import Derived.JoinedTies
import Derived.KernelRfl
namespace Go.Proofs.Qxb6500887a
/- THE CELL 'sum', in the pinned program and in every row, IS THE sha256 OF THE DUMP (.gsa) THAT Qxb6500887aProg.lean LOADS. Nothing in Lean hashes anything: it is a label: what it is worth is what the hold of that sum in a sandbox is worth. -/
noncomputable def Try.pinned : Pinned := { name := "qxb6500887a", sum := "db1331145ced23a425e0de8fe50f79143bd508f61475ffc8ecbbca69b355569e", checked := Try.checked }
namespace Rows
def none {H : Type} : Left H := { results := [], args := [] }

/-- 'arenalaw.SideTablesAreLists': WHATEVER THE INPUT: true; the input reads as it did. -/
def sideTablesAreListsSpec : ChangeSpec := { name := "sideTablesAreLists", fn := fun _ => fun
  | [d] => { results := [.lit (.bool true)], args := [d] }
  | _ => none }
def sideTablesAreListsRow : OpenClaim := { program := "qxb6500887a", sum := "db1331145ced23a425e0de8fe50f79143bd508f61475ffc8ecbbca69b355569e", func := "e2e/arenalaw.SideTablesAreLists", spec := "sideTablesAreLists", apart := false }
def SideTablesAreListsSaid : Prop := sideTablesAreListsRow.holds Try.pinned (OpenSpec.ofChange sideTablesAreListsSpec)

/-- ITS FALSE NEIGHBOUR: 'it returns false'. Refute it at one input. -/
def sideTablesAreListsWrong : ChangeSpec := { name := "sideTablesAreLists", fn := fun _ => fun
  | [d] => { results := [.lit (.bool false)], args := [d] }
  | _ => none }
def SideTablesAreListsWrongFalsely : Prop := sideTablesAreListsRow.holds Try.pinned (OpenSpec.ofChange sideTablesAreListsWrong)

/-- 'arenalaw.HeaderDecodeIsSound': WHATEVER THE INPUT: true; the input reads as it did. -/
def headerDecodeIsSoundSpec : ChangeSpec := { name := "headerDecodeIsSound", fn := fun _ => fun
  | [d] => { results := [.lit (.bool true)], args := [d] }
  | _ => none }
def headerDecodeIsSoundRow : OpenClaim := { program := "qxb6500887a", sum := "db1331145ced23a425e0de8fe50f79143bd508f61475ffc8ecbbca69b355569e", func := "e2e/arenalaw.HeaderDecodeIsSound", spec := "headerDecodeIsSound", apart := false }
def HeaderDecodeIsSoundSaid : Prop := headerDecodeIsSoundRow.holds Try.pinned (OpenSpec.ofChange headerDecodeIsSoundSpec)

/-- ITS FALSE NEIGHBOUR: 'it returns false'. Refute it at one input. -/
def headerDecodeIsSoundWrong : ChangeSpec := { name := "headerDecodeIsSound", fn := fun _ => fun
  | [d] => { results := [.lit (.bool false)], args := [d] }
  | _ => none }
def HeaderDecodeIsSoundWrongFalsely : Prop := headerDecodeIsSoundRow.holds Try.pinned (OpenSpec.ofChange headerDecodeIsSoundWrong)

/-- 'arenalaw.AddressesDecodeAndEncode': WHATEVER THE INPUT: true; the input reads as it did. -/
def addressesDecodeAndEncodeSpec : ChangeSpec := { name := "addressesDecodeAndEncode", fn := fun _ => fun
  | [d] => { results := [.lit (.bool true)], args := [d] }
  | _ => none }
def addressesDecodeAndEncodeRow : OpenClaim := { program := "qxb6500887a", sum := "db1331145ced23a425e0de8fe50f79143bd508f61475ffc8ecbbca69b355569e", func := "e2e/arenalaw.AddressesDecodeAndEncode", spec := "addressesDecodeAndEncode", apart := false }
def AddressesDecodeAndEncodeSaid : Prop := addressesDecodeAndEncodeRow.holds Try.pinned (OpenSpec.ofChange addressesDecodeAndEncodeSpec)

/-- ITS FALSE NEIGHBOUR: 'it returns false'. Refute it at one input. -/
def addressesDecodeAndEncodeWrong : ChangeSpec := { name := "addressesDecodeAndEncode", fn := fun _ => fun
  | [d] => { results := [.lit (.bool false)], args := [d] }
  | _ => none }
def AddressesDecodeAndEncodeWrongFalsely : Prop := addressesDecodeAndEncodeRow.holds Try.pinned (OpenSpec.ofChange addressesDecodeAndEncodeWrong)

/-- 'arenalaw.ExtentsAreRuns': WHATEVER THE INPUT: true; the input reads as it did. -/
def extentsAreRunsSpec : ChangeSpec := { name := "extentsAreRuns", fn := fun _ => fun
  | [d] => { results := [.lit (.bool true)], args := [d] }
  | _ => none }
def extentsAreRunsRow : OpenClaim := { program := "qxb6500887a", sum := "db1331145ced23a425e0de8fe50f79143bd508f61475ffc8ecbbca69b355569e", func := "e2e/arenalaw.ExtentsAreRuns", spec := "extentsAreRuns", apart := false }
def ExtentsAreRunsSaid : Prop := extentsAreRunsRow.holds Try.pinned (OpenSpec.ofChange extentsAreRunsSpec)

/-- ITS FALSE NEIGHBOUR: 'it returns false'. Refute it at one input. -/
def extentsAreRunsWrong : ChangeSpec := { name := "extentsAreRuns", fn := fun _ => fun
  | [d] => { results := [.lit (.bool false)], args := [d] }
  | _ => none }
def ExtentsAreRunsWrongFalsely : Prop := extentsAreRunsRow.holds Try.pinned (OpenSpec.ofChange extentsAreRunsWrong)

/-- 'arenalaw.TalliesCountExtents': WHATEVER THE INPUT: true; the input reads as it did. -/
def talliesCountExtentsSpec : ChangeSpec := { name := "talliesCountExtents", fn := fun _ => fun
  | [d] => { results := [.lit (.bool true)], args := [d] }
  | _ => none }
def talliesCountExtentsRow : OpenClaim := { program := "qxb6500887a", sum := "db1331145ced23a425e0de8fe50f79143bd508f61475ffc8ecbbca69b355569e", func := "e2e/arenalaw.TalliesCountExtents", spec := "talliesCountExtents", apart := false }
def TalliesCountExtentsSaid : Prop := talliesCountExtentsRow.holds Try.pinned (OpenSpec.ofChange talliesCountExtentsSpec)

/-- ITS FALSE NEIGHBOUR: 'it returns false'. Refute it at one input. -/
def talliesCountExtentsWrong : ChangeSpec := { name := "talliesCountExtents", fn := fun _ => fun
  | [d] => { results := [.lit (.bool false)], args := [d] }
  | _ => none }
def TalliesCountExtentsWrongFalsely : Prop := talliesCountExtentsRow.holds Try.pinned (OpenSpec.ofChange talliesCountExtentsWrong)

/-- 'arenalaw.HeaderRoundTrip': WHATEVER THE INPUT: true; the input reads as it did. -/
def headerRoundTripSpec : ChangeSpec := { name := "headerRoundTrip", fn := fun _ => fun
  | [] => { results := [.lit (.bool true)], args := [] }
  | _ => none }
def headerRoundTripRow : OpenClaim := { program := "qxb6500887a", sum := "db1331145ced23a425e0de8fe50f79143bd508f61475ffc8ecbbca69b355569e", func := "e2e/arenalaw.HeaderRoundTrip", spec := "headerRoundTrip", apart := false }
def HeaderRoundTripSaid : Prop := headerRoundTripRow.holds Try.pinned (OpenSpec.ofChange headerRoundTripSpec)

/-- ITS FALSE NEIGHBOUR: 'it returns false'. Refute it at one input. -/
def headerRoundTripWrong : ChangeSpec := { name := "headerRoundTrip", fn := fun _ => fun
  | [] => { results := [.lit (.bool false)], args := [] }
  | _ => none }
def HeaderRoundTripWrongFalsely : Prop := headerRoundTripRow.holds Try.pinned (OpenSpec.ofChange headerRoundTripWrong)

end Rows
end Go.Proofs.Qxb6500887a
