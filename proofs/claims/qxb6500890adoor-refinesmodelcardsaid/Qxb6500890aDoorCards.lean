/-
  DERIVED. GIVEN WITH THE SEED: THE CARDS: each row of Qxb6500890aDoorRows.lean that lists a variable, with what it lists TIED to the program's text (the seventh form; the later family's looks); each row that meets fmt, with fmt's text TOLD by the authors' own Lean function (tested against real Go, not proved from fmt's source: count such statements apart). THE CARD IS WHAT COUNTS. Prove the row's statement (the work); the ties are given (Qxb6500890aDoorTie.lean); close each card by the builder's one call (the guide's Derived/Test/ToyasCard.lean, 'card_holds'). Laid BY PROGRAM, IN A SANDBOX (cutbox-door.mjs). By AI agents, Wed Nov 11 2026. No macro, syntax, notation, axiom, sorry.
-/
import Derived.Test.Qxb6500890aDoorRows
import GoSem.ClaimSeven
namespace Go.Proofs.Qxb6500890aDoor
namespace Rows

/-- THE TIED CARD OF 'textlaw.RefinesModel'. -/
def refinesModelCard : Claim7 := { stood := { row := refinesModelRow, standIns := [], harness := (true, "f286e0d4b35d2fc31e6080e9be14cf202c0d301d5720052efd079ce385fb5365"), looks := false }, kinds := [], alts := [], laidByText := true, laidKinds := [.data], laidTests := true, laidLooks := .later }
def RefinesModelCardSaid : Prop := Claim7.holds Tryd.pinned (.plain (OpenSpec.ofChange refinesModelSpec)) refinesModelCard

/-- THE TIED CARD OF 'textlaw.CheckedArithmetic'. -/
def checkedArithmeticCard : Claim7 := { stood := { row := checkedArithmeticRow, standIns := [], harness := (true, "f286e0d4b35d2fc31e6080e9be14cf202c0d301d5720052efd079ce385fb5365"), looks := false }, kinds := [], alts := [], laidByText := true, laidKinds := [.data], laidTests := true, laidLooks := .later }
def CheckedArithmeticCardSaid : Prop := Claim7.holds Tryd.pinned (.plain (OpenSpec.ofChange checkedArithmeticSpec)) checkedArithmeticCard

/-- THE TIED CARD OF 'textlaw.BoundHolds'. -/
def boundHoldsCard : Claim7 := { stood := { row := boundHoldsRow, standIns := [], harness := (true, "f286e0d4b35d2fc31e6080e9be14cf202c0d301d5720052efd079ce385fb5365"), looks := false }, kinds := [], alts := [], laidByText := true, laidKinds := [.data], laidTests := true, laidLooks := .later }
def BoundHoldsCardSaid : Prop := Claim7.holds Tryd.pinned (.plain (OpenSpec.ofChange boundHoldsSpec)) boundHoldsCard
end Rows
end Go.Proofs.Qxb6500890aDoor
