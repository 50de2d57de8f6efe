/-
  No cell of these rows narrows 'for every input' (looked for: loops, veiled, ifaces, maps, wideKeys, modest, calm, conditions, laid).
  DERIVED. THE GIVEN ROWS OF THIS SEAT. 8 by the template 'for every input the law returns true; each argument reads behind the call as it read before'; 0 by the template 'total and deterministic' (their statements: Qxb6500890aTotals.lean).
  GIVEN WITH THE SEED: the statements are not yours to turn. If you find one false, say at which input.
  Laid BY PROGRAM, IN A SANDBOX (cutbox-rows.mjs): the forced cells as the released guide's own fill.sh prints them over the translation 6d52a3dc0beff602… (all of the seat's roots in one cut). By AI agents, Wed Nov 11 2026. No macro, syntax, notation, axiom, sorry.
-/
import Derived.Test.Qxb6500890aChecked
import GoSem.Claim
import GoSem.ClaimJoined
import GoSem.ClaimMapViews
import Derived.JoinedTies
import Derived.KernelRfl
namespace Go.Proofs.Qxb6500890a
/- THE CELL 'sum', in the pinned program and in every row, IS THE sha256 OF THE DUMP (.gsa) THAT Qxb6500890aProg.lean LOADS. Nothing in Lean hashes anything: it is a label: what it is worth is what the hold of that sum in a sandbox is worth. -/
noncomputable def Try.pinned : Pinned := { name := "qxb6500890a", sum := "6d52a3dc0beff6027b6ef7340871c4102566b92573c0eb93b87ddae26adcbbc6", checked := Try.checked }
namespace Rows
def none {H : Type} : Left H := { results := [], args := [] }

/-- 'textlaw.PrintThenParse': WHATEVER THE INPUT: true; the input reads as it did. -/
def printThenParseSpec : ChangeSpec := { name := "printThenParse", fn := fun _ => fun
  | [d] => { results := [.lit (.bool true)], args := [d] }
  | _ => none }
def printThenParseRow : OpenClaim := { program := "qxb6500890a", sum := "6d52a3dc0beff6027b6ef7340871c4102566b92573c0eb93b87ddae26adcbbc6", func := "e2e/textlaw.PrintThenParse", spec := "printThenParse", apart := false }
def PrintThenParseSaid : Prop := printThenParseRow.holds Try.pinned (OpenSpec.ofChange printThenParseSpec)

/-- ITS FALSE NEIGHBOUR: 'it returns false'. Refute it at one input. -/
def printThenParseWrong : ChangeSpec := { name := "printThenParse", fn := fun _ => fun
  | [d] => { results := [.lit (.bool false)], args := [d] }
  | _ => none }
def PrintThenParseWrongFalsely : Prop := printThenParseRow.holds Try.pinned (OpenSpec.ofChange printThenParseWrong)

/-- 'textlaw.ParseAcceptsExactly': WHATEVER THE INPUT: true; the input reads as it did. -/
def parseAcceptsExactlySpec : ChangeSpec := { name := "parseAcceptsExactly", fn := fun _ => fun
  | [d] => { results := [.lit (.bool true)], args := [d] }
  | _ => none }
def parseAcceptsExactlyRow : OpenClaim := { program := "qxb6500890a", sum := "6d52a3dc0beff6027b6ef7340871c4102566b92573c0eb93b87ddae26adcbbc6", func := "e2e/textlaw.ParseAcceptsExactly", spec := "parseAcceptsExactly", apart := false }
def ParseAcceptsExactlySaid : Prop := parseAcceptsExactlyRow.holds Try.pinned (OpenSpec.ofChange parseAcceptsExactlySpec)

/-- ITS FALSE NEIGHBOUR: 'it returns false'. Refute it at one input. -/
def parseAcceptsExactlyWrong : ChangeSpec := { name := "parseAcceptsExactly", fn := fun _ => fun
  | [d] => { results := [.lit (.bool false)], args := [d] }
  | _ => none }
def ParseAcceptsExactlyWrongFalsely : Prop := parseAcceptsExactlyRow.holds Try.pinned (OpenSpec.ofChange parseAcceptsExactlyWrong)

/-- 'textlaw.DivModIdentity': WHATEVER THE INPUT: true; the input reads as it did. -/
def divModIdentitySpec : ChangeSpec := { name := "divModIdentity", fn := fun _ => fun
  | [d] => { results := [.lit (.bool true)], args := [d] }
  | _ => none }
def divModIdentityRow : OpenClaim := { program := "qxb6500890a", sum := "6d52a3dc0beff6027b6ef7340871c4102566b92573c0eb93b87ddae26adcbbc6", func := "e2e/textlaw.DivModIdentity", spec := "divModIdentity", apart := false }
def DivModIdentitySaid : Prop := divModIdentityRow.holds Try.pinned (OpenSpec.ofChange divModIdentitySpec)

/-- ITS FALSE NEIGHBOUR: 'it returns false'. Refute it at one input. -/
def divModIdentityWrong : ChangeSpec := { name := "divModIdentity", fn := fun _ => fun
  | [d] => { results := [.lit (.bool false)], args := [d] }
  | _ => none }
def DivModIdentityWrongFalsely : Prop := divModIdentityRow.holds Try.pinned (OpenSpec.ofChange divModIdentityWrong)

/-- 'textlaw.SortOrderedPermutation': WHATEVER THE INPUT: true; the input reads as it did. -/
def sortOrderedPermutationSpec : ChangeSpec := { name := "sortOrderedPermutation", fn := fun _ => fun
  | [d] => { results := [.lit (.bool true)], args := [d] }
  | _ => none }
def sortOrderedPermutationRow : OpenClaim := { program := "qxb6500890a", sum := "6d52a3dc0beff6027b6ef7340871c4102566b92573c0eb93b87ddae26adcbbc6", func := "e2e/textlaw.SortOrderedPermutation", spec := "sortOrderedPermutation", unfollowed := true, recurses := true, apart := false }
def SortOrderedPermutationSaid : Prop := sortOrderedPermutationRow.holds Try.pinned (OpenSpec.ofChange sortOrderedPermutationSpec)

/-- ITS FALSE NEIGHBOUR: 'it returns false'. Refute it at one input. -/
def sortOrderedPermutationWrong : ChangeSpec := { name := "sortOrderedPermutation", fn := fun _ => fun
  | [d] => { results := [.lit (.bool false)], args := [d] }
  | _ => none }
def SortOrderedPermutationWrongFalsely : Prop := sortOrderedPermutationRow.holds Try.pinned (OpenSpec.ofChange sortOrderedPermutationWrong)

/-- 'textlaw.SortStableOnKeyed': WHATEVER THE INPUT: true; the input reads as it did. -/
def sortStableOnKeyedSpec : ChangeSpec := { name := "sortStableOnKeyed", fn := fun _ => fun
  | [d] => { results := [.lit (.bool true)], args := [d] }
  | _ => none }
def sortStableOnKeyedRow : OpenClaim := { program := "qxb6500890a", sum := "6d52a3dc0beff6027b6ef7340871c4102566b92573c0eb93b87ddae26adcbbc6", func := "e2e/textlaw.SortStableOnKeyed", spec := "sortStableOnKeyed", unfollowed := true, recurses := true, apart := false }
def SortStableOnKeyedSaid : Prop := sortStableOnKeyedRow.holds Try.pinned (OpenSpec.ofChange sortStableOnKeyedSpec)

/-- ITS FALSE NEIGHBOUR: 'it returns false'. Refute it at one input. -/
def sortStableOnKeyedWrong : ChangeSpec := { name := "sortStableOnKeyed", fn := fun _ => fun
  | [d] => { results := [.lit (.bool false)], args := [d] }
  | _ => none }
def SortStableOnKeyedWrongFalsely : Prop := sortStableOnKeyedRow.holds Try.pinned (OpenSpec.ofChange sortStableOnKeyedWrong)

/-- 'textlaw.OrderIsTotal': WHATEVER THE INPUT: true; the input reads as it did. -/
def orderIsTotalSpec : ChangeSpec := { name := "orderIsTotal", fn := fun _ => fun
  | [d] => { results := [.lit (.bool true)], args := [d] }
  | _ => none }
def orderIsTotalRow : OpenClaim := { program := "qxb6500890a", sum := "6d52a3dc0beff6027b6ef7340871c4102566b92573c0eb93b87ddae26adcbbc6", func := "e2e/textlaw.OrderIsTotal", spec := "orderIsTotal", apart := false }
def OrderIsTotalSaid : Prop := orderIsTotalRow.holds Try.pinned (OpenSpec.ofChange orderIsTotalSpec)

/-- ITS FALSE NEIGHBOUR: 'it returns false'. Refute it at one input. -/
def orderIsTotalWrong : ChangeSpec := { name := "orderIsTotal", fn := fun _ => fun
  | [d] => { results := [.lit (.bool false)], args := [d] }
  | _ => none }
def OrderIsTotalWrongFalsely : Prop := orderIsTotalRow.holds Try.pinned (OpenSpec.ofChange orderIsTotalWrong)

/-- 'textlaw.ParseEdges': WHATEVER THE INPUT: true; the input reads as it did. -/
def parseEdgesSpec : ChangeSpec := { name := "parseEdges", fn := fun _ => fun
  | [] => { results := [.lit (.bool true)], args := [] }
  | _ => none }
def parseEdgesRow : OpenClaim := { program := "qxb6500890a", sum := "6d52a3dc0beff6027b6ef7340871c4102566b92573c0eb93b87ddae26adcbbc6", func := "e2e/textlaw.ParseEdges", spec := "parseEdges", apart := false }
def ParseEdgesSaid : Prop := parseEdgesRow.holds Try.pinned (OpenSpec.ofChange parseEdgesSpec)

/-- ITS FALSE NEIGHBOUR: 'it returns false'. Refute it at one input. -/
def parseEdgesWrong : ChangeSpec := { name := "parseEdges", fn := fun _ => fun
  | [] => { results := [.lit (.bool false)], args := [] }
  | _ => none }
def ParseEdgesWrongFalsely : Prop := parseEdgesRow.holds Try.pinned (OpenSpec.ofChange parseEdgesWrong)

/-- 'textlaw.DivisionEdge': WHATEVER THE INPUT: true; the input reads as it did. -/
def divisionEdgeSpec : ChangeSpec := { name := "divisionEdge", fn := fun _ => fun
  | [] => { results := [.lit (.bool true)], args := [] }
  | _ => none }
def divisionEdgeRow : OpenClaim := { program := "qxb6500890a", sum := "6d52a3dc0beff6027b6ef7340871c4102566b92573c0eb93b87ddae26adcbbc6", func := "e2e/textlaw.DivisionEdge", spec := "divisionEdge", apart := false }
def DivisionEdgeSaid : Prop := divisionEdgeRow.holds Try.pinned (OpenSpec.ofChange divisionEdgeSpec)

/-- ITS FALSE NEIGHBOUR: 'it returns false'. Refute it at one input. -/
def divisionEdgeWrong : ChangeSpec := { name := "divisionEdge", fn := fun _ => fun
  | [] => { results := [.lit (.bool false)], args := [] }
  | _ => none }
def DivisionEdgeWrongFalsely : Prop := divisionEdgeRow.holds Try.pinned (OpenSpec.ofChange divisionEdgeWrong)

end Rows
end Go.Proofs.Qxb6500890a
