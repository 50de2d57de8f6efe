/-
  NARROWER THAN 'FOR EVERY INPUT', by the rows' own cells (each row's printed sentence says how): BadAddressesAreRefused: laid.
  DERIVED. THE GIVEN ROWS OF THIS SEAT. 1 by the template 'for every input the law returns true; each argument reads behind the call as it read before'; 0 by the template 'total and deterministic' (their statements: Qxb6500887aGreatDoorTotals.lean).
  GIVEN WITH THE SEED: the statements are not yours to turn. If you find one false, say at which input.
  Laid BY PROGRAM, IN A SANDBOX (cutbox-rows.mjs): the forced cells as the released guide's own fill.sh prints them over the translation 8f7144bb6a997f00… (all of the seat's roots in one cut). By AI agents, Wed Nov 11 2026. No macro, syntax, notation, axiom, sorry.
-/
import Derived.Test.Qxb6500887aGreatDoorChecked
import GoSem.Claim
import GoSem.ClaimJoined
import GoSem.ClaimMapViews
import Derived.JoinedTies
import Derived.KernelRfl
namespace Go.Proofs.Qxb6500887aGreatDoor
/- THE CELL 'sum', in the pinned program and in every row, IS THE sha256 OF THE DUMP (.gsa) THAT Qxb6500887aGreatDoorProg.lean LOADS. Nothing in Lean hashes anything: it is a label: what it is worth is what the hold of that sum in a sandbox is worth. -/
noncomputable def Tryz.pinned : Pinned := { name := "qxb6500887agreatdoor", sum := "8f7144bb6a997f00faa97bdf1983e051562918d68b98fbbc8fd28825eb5524c0", checked := Tryz.checked }
namespace Rows
def none {H : Type} : Left H := { results := [], args := [] }

/- WHAT THE LISTED PACKAGE-LEVEL VARIABLES READ AS WHEN THE CALL BEGINS. Each datum BY PROGRAM (the guide's laid-datum.mjs) off the statement by which the dump's own 'gosem.cut.vars' lays the variable. In a bare row this is a premise. The card (Qxb6500887aGreatDoorCards.lean) ties it to the program's text. -/
def laid_e2e_arenalaw_wordKinds {H : Type} : DataW H := .slice [.lit (.int .u8 0), .lit (.int .u8 1), .lit (.int .u8 2), .lit (.int .u8 3), .lit (.int .u8 42), .lit (.int .u8 43), .lit (.int .u8 18), .lit (.int .u8 19), .lit (.int .u8 20), .lit (.int .u8 21), .lit (.int .u8 46), .lit (.int .u8 62)] []
def laid_e2e_arenalaw_objectKinds {H : Type} : DataW H := .slice [.lit (.int .u8 6), .lit (.int .u8 7), .lit (.int .u8 8), .lit (.int .u8 9), .lit (.int .u8 10), .lit (.int .u8 11), .lit (.int .u8 12), .lit (.int .u8 13), .lit (.int .u8 14), .lit (.int .u8 15), .lit (.int .u8 44), .lit (.int .u8 45), .lit (.int .u8 47), .lit (.int .u8 16), .lit (.int .u8 17), .lit (.int .u8 23), .lit (.int .u8 24), .lit (.int .u8 25), .lit (.int .u8 29), .lit (.int .u8 30)] []

/-- 'arenalaw.BadAddressesAreRefused': WHATEVER THE INPUT: true; the input reads as it did. -/
def badAddressesAreRefusedSpec : ChangeSpec := { name := "badAddressesAreRefused", fn := fun _ => fun
  | [d] => { results := [.lit (.bool true)], args := [d] }
  | _ => none }
def badAddressesAreRefusedRow : OpenClaim := { program := "qxb6500887agreatdoor", sum := "8f7144bb6a997f00faa97bdf1983e051562918d68b98fbbc8fd28825eb5524c0", func := "e2e/arenalaw.BadAddressesAreRefused", spec := "badAddressesAreRefused", unfollowed := true, recurses := true, named := ["e2e/arenalaw.wordKinds", "e2e/arenalaw.objectKinds"], apart := false, laid := [("e2e/arenalaw.wordKinds", laid_e2e_arenalaw_wordKinds), ("e2e/arenalaw.objectKinds", laid_e2e_arenalaw_objectKinds)] }
def BadAddressesAreRefusedSaid : Prop := badAddressesAreRefusedRow.holds Tryz.pinned (OpenSpec.ofChange badAddressesAreRefusedSpec)

/-- ITS FALSE NEIGHBOUR: 'it returns false'. Refute it at one input. -/
def badAddressesAreRefusedWrong : ChangeSpec := { name := "badAddressesAreRefused", fn := fun _ => fun
  | [d] => { results := [.lit (.bool false)], args := [d] }
  | _ => none }
def BadAddressesAreRefusedWrongFalsely : Prop := badAddressesAreRefusedRow.holds Tryz.pinned (OpenSpec.ofChange badAddressesAreRefusedWrong)

end Rows
end Go.Proofs.Qxb6500887aGreatDoor
