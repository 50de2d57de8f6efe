/-
  NARROWER THAN 'FOR EVERY INPUT', by the rows' own cells (each row's printed sentence says how): Refines: laid · WellFormed: laid · VictimRule: laid · PinnedStay: laid.
  DERIVED. THE GIVEN ROWS OF THIS SEAT. 4 by the template 'for every input the law returns true; each argument reads behind the call as it read before'; 0 by the template 'total and deterministic' (their statements: Qxb6500892aDoorTotals.lean).
  GIVEN WITH THE SEED: the statements are not yours to turn. If you find one false, say at which input.
  Laid BY PROGRAM, IN A SANDBOX (cutbox-rows.mjs): the forced cells as the released guide's own fill.sh prints them over the translation c774d8bbf44364fb… (all of the seat's roots in one cut). By AI agents, Wed Nov 11 2026. No macro, syntax, notation, axiom, sorry.
-/
import Derived.Test.Qxb6500892aDoorChecked
import GoSem.Claim
import GoSem.ClaimJoined
import GoSem.ClaimMapViews
import Derived.JoinedTies
import Derived.KernelRfl
namespace Go.Proofs.Qxb6500892aDoor
/- THE CELL 'sum', in the pinned program and in every row, IS THE sha256 OF THE DUMP (.gsa) THAT Qxb6500892aDoorProg.lean LOADS. Nothing in Lean hashes anything: it is a label: what it is worth is what the hold of that sum in a sandbox is worth. -/
noncomputable def Tryd.pinned : Pinned := { name := "qxb6500892adoor", sum := "c774d8bbf44364fb583d60cd7e73166a5e9f75c4a03898378564e96fc33750de", checked := Tryd.checked }
namespace Rows
def none {H : Type} : Left H := { results := [], args := [] }

/- WHAT THE LISTED PACKAGE-LEVEL VARIABLES READ AS WHEN THE CALL BEGINS. Each datum BY PROGRAM (the guide's laid-datum.mjs) off the statement by which the dump's own 'gosem.cut.vars' lays the variable. In a bare row this is a premise. The card (Qxb6500892aDoorCards.lean) ties it to the program's text. -/
def laid_e2e_api_Default {H : Type} : DataW H := .agg [.lit (.int .i64 48), .lit (.int .i64 12), .lit (.int .i64 24), .lit (.int .i64 8)]

/-- 'twoqlaw.Refines': WHATEVER THE INPUT: true; the input reads as it did. -/
def refinesSpec : ChangeSpec := { name := "refines", fn := fun _ => fun
  | [d] => { results := [.lit (.bool true)], args := [d] }
  | _ => none }
def refinesRow : OpenClaim := { program := "qxb6500892adoor", sum := "c774d8bbf44364fb583d60cd7e73166a5e9f75c4a03898378564e96fc33750de", func := "e2e/twoqlaw.Refines", spec := "refines", unfollowed := true, recurses := true, named := ["e2e/api.Default"], apart := false, laid := [("e2e/api.Default", laid_e2e_api_Default)] }
def RefinesSaid : Prop := refinesRow.holds Tryd.pinned (OpenSpec.ofChange refinesSpec)

/-- ITS FALSE NEIGHBOUR: 'it returns false'. Refute it at one input. -/
def refinesWrong : ChangeSpec := { name := "refines", fn := fun _ => fun
  | [d] => { results := [.lit (.bool false)], args := [d] }
  | _ => none }
def RefinesWrongFalsely : Prop := refinesRow.holds Tryd.pinned (OpenSpec.ofChange refinesWrong)

/-- 'twoqlaw.WellFormed': WHATEVER THE INPUT: true; the input reads as it did. -/
def wellFormedSpec : ChangeSpec := { name := "wellFormed", fn := fun _ => fun
  | [d] => { results := [.lit (.bool true)], args := [d] }
  | _ => none }
def wellFormedRow : OpenClaim := { program := "qxb6500892adoor", sum := "c774d8bbf44364fb583d60cd7e73166a5e9f75c4a03898378564e96fc33750de", func := "e2e/twoqlaw.WellFormed", spec := "wellFormed", named := ["e2e/api.Default"], apart := false, laid := [("e2e/api.Default", laid_e2e_api_Default)] }
def WellFormedSaid : Prop := wellFormedRow.holds Tryd.pinned (OpenSpec.ofChange wellFormedSpec)

/-- ITS FALSE NEIGHBOUR: 'it returns false'. Refute it at one input. -/
def wellFormedWrong : ChangeSpec := { name := "wellFormed", fn := fun _ => fun
  | [d] => { results := [.lit (.bool false)], args := [d] }
  | _ => none }
def WellFormedWrongFalsely : Prop := wellFormedRow.holds Tryd.pinned (OpenSpec.ofChange wellFormedWrong)

/-- 'twoqlaw.VictimRule': WHATEVER THE INPUT: true; the input reads as it did. -/
def victimRuleSpec : ChangeSpec := { name := "victimRule", fn := fun _ => fun
  | [d] => { results := [.lit (.bool true)], args := [d] }
  | _ => none }
def victimRuleRow : OpenClaim := { program := "qxb6500892adoor", sum := "c774d8bbf44364fb583d60cd7e73166a5e9f75c4a03898378564e96fc33750de", func := "e2e/twoqlaw.VictimRule", spec := "victimRule", named := ["e2e/api.Default"], apart := false, laid := [("e2e/api.Default", laid_e2e_api_Default)] }
def VictimRuleSaid : Prop := victimRuleRow.holds Tryd.pinned (OpenSpec.ofChange victimRuleSpec)

/-- ITS FALSE NEIGHBOUR: 'it returns false'. Refute it at one input. -/
def victimRuleWrong : ChangeSpec := { name := "victimRule", fn := fun _ => fun
  | [d] => { results := [.lit (.bool false)], args := [d] }
  | _ => none }
def VictimRuleWrongFalsely : Prop := victimRuleRow.holds Tryd.pinned (OpenSpec.ofChange victimRuleWrong)

/-- 'twoqlaw.PinnedStay': WHATEVER THE INPUT: true; the input reads as it did. -/
def pinnedStaySpec : ChangeSpec := { name := "pinnedStay", fn := fun _ => fun
  | [d] => { results := [.lit (.bool true)], args := [d] }
  | _ => none }
def pinnedStayRow : OpenClaim := { program := "qxb6500892adoor", sum := "c774d8bbf44364fb583d60cd7e73166a5e9f75c4a03898378564e96fc33750de", func := "e2e/twoqlaw.PinnedStay", spec := "pinnedStay", named := ["e2e/api.Default"], apart := false, laid := [("e2e/api.Default", laid_e2e_api_Default)] }
def PinnedStaySaid : Prop := pinnedStayRow.holds Tryd.pinned (OpenSpec.ofChange pinnedStaySpec)

/-- ITS FALSE NEIGHBOUR: 'it returns false'. Refute it at one input. -/
def pinnedStayWrong : ChangeSpec := { name := "pinnedStay", fn := fun _ => fun
  | [d] => { results := [.lit (.bool false)], args := [d] }
  | _ => none }
def PinnedStayWrongFalsely : Prop := pinnedStayRow.holds Tryd.pinned (OpenSpec.ofChange pinnedStayWrong)

end Rows
end Go.Proofs.Qxb6500892aDoor
