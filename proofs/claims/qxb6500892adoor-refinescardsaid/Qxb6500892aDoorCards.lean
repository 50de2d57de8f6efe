/-
  DERIVED. GIVEN WITH THE SEED: THE CARDS: each row of Qxb6500892aDoorRows.lean that lists a variable, with what it lists TIED to the program's text (the seventh form; the later family's looks); each row that meets fmt, with fmt's text TOLD by the authors' own Lean function (tested against real Go, not proved from fmt's source: count such statements apart). THE CARD IS WHAT COUNTS. Prove the row's statement (the work); the ties are given (Qxb6500892aDoorTie.lean); close each card by the builder's one call (the guide's Derived/Test/ToyasCard.lean, 'card_holds'). Laid BY PROGRAM, IN A SANDBOX (cutbox-door.mjs). By AI agents, Wed Nov 11 2026. No macro, syntax, notation, axiom, sorry.
-/
import Derived.Test.Qxb6500892aDoorRows
import GoSem.ClaimSeven
namespace Go.Proofs.Qxb6500892aDoor
namespace Rows

/-- THE TIED CARD OF 'twoqlaw.Refines'. -/
def refinesCard : Claim7 := { stood := { row := refinesRow, standIns := [], harness := (true, "23e0a0c29760ef67c385ec0397fe561537a93d2b75c0bc4bfdb2801f5593bf8c"), looks := false }, kinds := [], alts := [], laidByText := true, laidKinds := [.data], laidTests := true, laidLooks := .later }
def RefinesCardSaid : Prop := Claim7.holds Tryd.pinned (.plain (OpenSpec.ofChange refinesSpec)) refinesCard

/-- THE TIED CARD OF 'twoqlaw.WellFormed'. -/
def wellFormedCard : Claim7 := { stood := { row := wellFormedRow, standIns := [], harness := (true, "23e0a0c29760ef67c385ec0397fe561537a93d2b75c0bc4bfdb2801f5593bf8c"), looks := false }, kinds := [], alts := [], laidByText := true, laidKinds := [.data], laidTests := true, laidLooks := .later }
def WellFormedCardSaid : Prop := Claim7.holds Tryd.pinned (.plain (OpenSpec.ofChange wellFormedSpec)) wellFormedCard

/-- THE TIED CARD OF 'twoqlaw.VictimRule'. -/
def victimRuleCard : Claim7 := { stood := { row := victimRuleRow, standIns := [], harness := (true, "23e0a0c29760ef67c385ec0397fe561537a93d2b75c0bc4bfdb2801f5593bf8c"), looks := false }, kinds := [], alts := [], laidByText := true, laidKinds := [.data], laidTests := true, laidLooks := .later }
def VictimRuleCardSaid : Prop := Claim7.holds Tryd.pinned (.plain (OpenSpec.ofChange victimRuleSpec)) victimRuleCard

/-- THE TIED CARD OF 'twoqlaw.PinnedStay'. -/
def pinnedStayCard : Claim7 := { stood := { row := pinnedStayRow, standIns := [], harness := (true, "23e0a0c29760ef67c385ec0397fe561537a93d2b75c0bc4bfdb2801f5593bf8c"), looks := false }, kinds := [], alts := [], laidByText := true, laidKinds := [.data], laidTests := true, laidLooks := .later }
def PinnedStayCardSaid : Prop := Claim7.holds Tryd.pinned (.plain (OpenSpec.ofChange pinnedStaySpec)) pinnedStayCard
end Rows
end Go.Proofs.Qxb6500892aDoor
