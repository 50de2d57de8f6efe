/-
  NARROWER THAN 'FOR EVERY INPUT', by the rows' own cells (each row's printed sentence says how): BadHandlesAreRefused: laid · EveryByteStringDecodes: laid.
  DERIVED. THE GIVEN ROWS OF THIS SEAT. 2 by the template 'for every input the law returns true; each argument reads behind the call as it read before'; 0 by the template 'total and deterministic' (their statements: Qxb6500889aDoorTotals.lean).
  GIVEN WITH THE SEED: the statements are not yours to turn. If you find one false, say at which input.
  Laid BY PROGRAM, IN A SANDBOX (cutbox-rows.mjs): the forced cells as the released guide's own fill.sh prints them over the translation 10f4e774ec9b98eb… (all of the seat's roots in one cut). By AI agents, Wed Nov 11 2026. No macro, syntax, notation, axiom, sorry.
-/
import Derived.Test.Qxb6500889aDoorChecked
import GoSem.Claim
import GoSem.ClaimJoined
import GoSem.ClaimMapViews
import Derived.JoinedTies
import Derived.KernelRfl
namespace Go.Proofs.Qxb6500889aDoor
/- THE CELL 'sum', in the pinned program and in every row, IS THE sha256 OF THE DUMP (.gsa) THAT Qxb6500889aDoorProg.lean LOADS. Nothing in Lean hashes anything: it is a label: what it is worth is what the hold of that sum in a sandbox is worth. -/
noncomputable def Tryd.pinned : Pinned := { name := "qxb6500889adoor", sum := "10f4e774ec9b98ebd8364e557caf32c6ce0bfd2a7ed11cf21e1b1b11aadf4a0b", checked := Tryd.checked }
namespace Rows
def none {H : Type} : Left H := { results := [], args := [] }

/- WHAT THE LISTED PACKAGE-LEVEL VARIABLES READ AS WHEN THE CALL BEGINS. Each datum BY PROGRAM (the guide's laid-datum.mjs) off the statement by which the dump's own 'gosem.cut.vars' lays the variable. In a bare row this is a premise. The card (Qxb6500889aDoorCards.lean) ties it to the program's text. -/
def laid_e2e_mutapilaw_handleKinds {H : Type} : DataW H := .slice [.lit (.int .u8 1), .lit (.int .u8 2), .lit (.int .u8 3), .lit (.int .u8 4), .lit (.int .u8 5)] []
def laid_e2e_mutapi_arity {H : Type} : DataW H := .agg [.lit (.int .i64 2), .lit (.int .i64 2), .lit (.int .i64 3), .lit (.int .i64 2), .lit (.int .i64 3), .lit (.int .i64 1), .lit (.int .i64 0), .lit (.int .i64 0), .lit (.int .i64 0)]
def laid_e2e_mutapilaw_arguments {H : Type} : DataW H := .map [(.int .u8 0, .lit (.int .i64 2)), (.int .u8 1, .lit (.int .i64 2)), (.int .u8 2, .lit (.int .i64 3)), (.int .u8 3, .lit (.int .i64 2)), (.int .u8 4, .lit (.int .i64 3)), (.int .u8 5, .lit (.int .i64 1)), (.int .u8 6, .lit (.int .i64 0)), (.int .u8 7, .lit (.int .i64 0)), (.int .u8 8, .lit (.int .i64 0))]

/-- 'mutapilaw.BadHandlesAreRefused': WHATEVER THE INPUT: true; the input reads as it did. -/
def badHandlesAreRefusedSpec : ChangeSpec := { name := "badHandlesAreRefused", fn := fun _ => fun
  | [d] => { results := [.lit (.bool true)], args := [d] }
  | _ => none }
def badHandlesAreRefusedRow : OpenClaim := { program := "qxb6500889adoor", sum := "10f4e774ec9b98ebd8364e557caf32c6ce0bfd2a7ed11cf21e1b1b11aadf4a0b", func := "e2e/mutapilaw.BadHandlesAreRefused", spec := "badHandlesAreRefused", named := ["e2e/mutapilaw.handleKinds"], apart := false, laid := [("e2e/mutapilaw.handleKinds", laid_e2e_mutapilaw_handleKinds)] }
def BadHandlesAreRefusedSaid : Prop := badHandlesAreRefusedRow.holds Tryd.pinned (OpenSpec.ofChange badHandlesAreRefusedSpec)

/-- ITS FALSE NEIGHBOUR: 'it returns false'. Refute it at one input. -/
def badHandlesAreRefusedWrong : ChangeSpec := { name := "badHandlesAreRefused", fn := fun _ => fun
  | [d] => { results := [.lit (.bool false)], args := [d] }
  | _ => none }
def BadHandlesAreRefusedWrongFalsely : Prop := badHandlesAreRefusedRow.holds Tryd.pinned (OpenSpec.ofChange badHandlesAreRefusedWrong)

/-- 'mutapilaw.EveryByteStringDecodes': WHATEVER THE INPUT: true; the input reads as it did. -/
def everyByteStringDecodesSpec : ChangeSpec := { name := "everyByteStringDecodes", fn := fun _ => fun
  | [d] => { results := [.lit (.bool true)], args := [d] }
  | _ => none }
def everyByteStringDecodesRow : OpenClaim := { program := "qxb6500889adoor", sum := "10f4e774ec9b98ebd8364e557caf32c6ce0bfd2a7ed11cf21e1b1b11aadf4a0b", func := "e2e/mutapilaw.EveryByteStringDecodes", spec := "everyByteStringDecodes", named := ["e2e/mutapi.arity", "e2e/mutapilaw.arguments"], apart := false, laid := [("e2e/mutapi.arity", laid_e2e_mutapi_arity), ("e2e/mutapilaw.arguments", laid_e2e_mutapilaw_arguments)] }
def EveryByteStringDecodesSaid : Prop := everyByteStringDecodesRow.holds Tryd.pinned (OpenSpec.ofChange everyByteStringDecodesSpec)

/-- ITS FALSE NEIGHBOUR: 'it returns false'. Refute it at one input. -/
def everyByteStringDecodesWrong : ChangeSpec := { name := "everyByteStringDecodes", fn := fun _ => fun
  | [d] => { results := [.lit (.bool false)], args := [d] }
  | _ => none }
def EveryByteStringDecodesWrongFalsely : Prop := everyByteStringDecodesRow.holds Tryd.pinned (OpenSpec.ofChange everyByteStringDecodesWrong)

end Rows
end Go.Proofs.Qxb6500889aDoor
