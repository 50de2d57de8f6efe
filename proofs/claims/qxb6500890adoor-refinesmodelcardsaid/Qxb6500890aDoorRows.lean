/-
  NARROWER THAN 'FOR EVERY INPUT', by the rows' own cells (each row's printed sentence says how): RefinesModel: laid · CheckedArithmetic: laid · BoundHolds: laid.
  DERIVED. THE GIVEN ROWS OF THIS SEAT. 3 by the template 'for every input the law returns true; each argument reads behind the call as it read before'; 0 by the template 'total and deterministic' (their statements: Qxb6500890aDoorTotals.lean).
  GIVEN WITH THE SEED: the statements are not yours to turn. If you find one false, say at which input.
  Laid BY PROGRAM, IN A SANDBOX (cutbox-rows.mjs): the forced cells as the released guide's own fill.sh prints them over the translation 44587718b313563f… (all of the seat's roots in one cut). By AI agents, Wed Nov 11 2026. No macro, syntax, notation, axiom, sorry.
-/
import Derived.Test.Qxb6500890aDoorChecked
import GoSem.Claim
import GoSem.ClaimJoined
import GoSem.ClaimMapViews
import Derived.JoinedTies
import Derived.KernelRfl
namespace Go.Proofs.Qxb6500890aDoor
/- THE CELL 'sum', in the pinned program and in every row, IS THE sha256 OF THE DUMP (.gsa) THAT Qxb6500890aDoorProg.lean LOADS. Nothing in Lean hashes anything: it is a label: what it is worth is what the hold of that sum in a sandbox is worth. -/
noncomputable def Tryd.pinned : Pinned := { name := "qxb6500890adoor", sum := "44587718b313563f46bbe8a94e0d02d9ff8a8e937d7a65621fa62a2f70d65db3", checked := Tryd.checked }
namespace Rows
def none {H : Type} : Left H := { results := [], args := [] }

/- WHAT THE LISTED PACKAGE-LEVEL VARIABLES READ AS WHEN THE CALL BEGINS. Each datum BY PROGRAM (the guide's laid-datum.mjs) off the statement by which the dump's own 'gosem.cut.vars' lays the variable. In a bare row this is a premise. The card (Qxb6500890aDoorCards.lean) ties it to the program's text. -/
def laid_e2e_text_codeNames {H : Type} : DataW H := .agg [.lit (.string [111, 107]), .lit (.string [98, 97, 100, 32, 105, 110, 116, 101, 103, 101, 114, 32, 115, 121, 110, 116, 97, 120]), .lit (.string [105, 110, 116, 101, 103, 101, 114, 32, 111, 117, 116, 32, 111, 102, 32, 114, 97, 110, 103, 101]), .lit (.string [105, 110, 116, 101, 103, 101, 114, 32, 111, 118, 101, 114, 102, 108, 111, 119]), .lit (.string [100, 105, 118, 105, 115, 105, 111, 110, 32, 98, 121, 32, 122, 101, 114, 111]), .lit (.string [115, 105, 122, 101, 32, 108, 105, 109, 105, 116, 32, 101, 120, 99, 101, 101, 100, 101, 100]), .lit (.string [105, 110, 100, 101, 120, 32, 111, 117, 116, 32, 111, 102, 32, 98, 111, 117, 110, 100, 115])]
def laid_e2e_textlaw_arithKinds {H : Type} : DataW H := .slice [.lit (.int .i64 2), .lit (.int .i64 3), .lit (.int .i64 4), .lit (.int .i64 5), .lit (.int .i64 6), .lit (.int .i64 7)] []

/-- 'textlaw.RefinesModel': WHATEVER THE INPUT: true; the input reads as it did. -/
def refinesModelSpec : ChangeSpec := { name := "refinesModel", fn := fun _ => fun
  | [d] => { results := [.lit (.bool true)], args := [d] }
  | _ => none }
def refinesModelRow : OpenClaim := { program := "qxb6500890adoor", sum := "44587718b313563f46bbe8a94e0d02d9ff8a8e937d7a65621fa62a2f70d65db3", func := "e2e/textlaw.RefinesModel", spec := "refinesModel", unfollowed := true, recurses := true, named := ["e2e/text.codeNames"], apart := false, laid := [("e2e/text.codeNames", laid_e2e_text_codeNames)] }
def RefinesModelSaid : Prop := refinesModelRow.holds Tryd.pinned (OpenSpec.ofChange refinesModelSpec)

/-- ITS FALSE NEIGHBOUR: 'it returns false'. Refute it at one input. -/
def refinesModelWrong : ChangeSpec := { name := "refinesModel", fn := fun _ => fun
  | [d] => { results := [.lit (.bool false)], args := [d] }
  | _ => none }
def RefinesModelWrongFalsely : Prop := refinesModelRow.holds Tryd.pinned (OpenSpec.ofChange refinesModelWrong)

/-- 'textlaw.CheckedArithmetic': WHATEVER THE INPUT: true; the input reads as it did. -/
def checkedArithmeticSpec : ChangeSpec := { name := "checkedArithmetic", fn := fun _ => fun
  | [d] => { results := [.lit (.bool true)], args := [d] }
  | _ => none }
def checkedArithmeticRow : OpenClaim := { program := "qxb6500890adoor", sum := "44587718b313563f46bbe8a94e0d02d9ff8a8e937d7a65621fa62a2f70d65db3", func := "e2e/textlaw.CheckedArithmetic", spec := "checkedArithmetic", named := ["e2e/textlaw.arithKinds"], apart := false, laid := [("e2e/textlaw.arithKinds", laid_e2e_textlaw_arithKinds)] }
def CheckedArithmeticSaid : Prop := checkedArithmeticRow.holds Tryd.pinned (OpenSpec.ofChange checkedArithmeticSpec)

/-- ITS FALSE NEIGHBOUR: 'it returns false'. Refute it at one input. -/
def checkedArithmeticWrong : ChangeSpec := { name := "checkedArithmetic", fn := fun _ => fun
  | [d] => { results := [.lit (.bool false)], args := [d] }
  | _ => none }
def CheckedArithmeticWrongFalsely : Prop := checkedArithmeticRow.holds Tryd.pinned (OpenSpec.ofChange checkedArithmeticWrong)

/-- 'textlaw.BoundHolds': WHATEVER THE INPUT: true; the input reads as it did. -/
def boundHoldsSpec : ChangeSpec := { name := "boundHolds", fn := fun _ => fun
  | [d] => { results := [.lit (.bool true)], args := [d] }
  | _ => none }
def boundHoldsRow : OpenClaim := { program := "qxb6500890adoor", sum := "44587718b313563f46bbe8a94e0d02d9ff8a8e937d7a65621fa62a2f70d65db3", func := "e2e/textlaw.BoundHolds", spec := "boundHolds", unfollowed := true, recurses := true, named := ["e2e/text.codeNames"], apart := false, laid := [("e2e/text.codeNames", laid_e2e_text_codeNames)] }
def BoundHoldsSaid : Prop := boundHoldsRow.holds Tryd.pinned (OpenSpec.ofChange boundHoldsSpec)

/-- ITS FALSE NEIGHBOUR: 'it returns false'. Refute it at one input. -/
def boundHoldsWrong : ChangeSpec := { name := "boundHolds", fn := fun _ => fun
  | [d] => { results := [.lit (.bool false)], args := [d] }
  | _ => none }
def BoundHoldsWrongFalsely : Prop := boundHoldsRow.holds Tryd.pinned (OpenSpec.ofChange boundHoldsWrong)

end Rows
end Go.Proofs.Qxb6500890aDoor
