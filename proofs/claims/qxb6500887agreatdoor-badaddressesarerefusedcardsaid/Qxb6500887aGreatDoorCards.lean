/-
  DERIVED. GIVEN WITH THE SEED: THE CARDS: each row of Qxb6500887aGreatDoorRows.lean that lists a variable, with what it lists TIED to the program's text (the seventh form; the later family's looks); each row that meets fmt, with fmt's text TOLD by the authors' own Lean function (tested against real Go, not proved from fmt's source: count such statements apart). THE CARD IS WHAT COUNTS. Prove the row's statement (the work); the ties are given (Qxb6500887aGreatDoorTie.lean); close each card by the builder's one call (the guide's Derived/Test/ToyasCard.lean, 'card_holds'). Laid BY PROGRAM, IN A SANDBOX (cutbox-door.mjs). By AI agents, Wed Nov 11 2026. No macro, syntax, notation, axiom, sorry.
-/
import Derived.Test.Qxb6500887aGreatDoorRows
import GoSem.ClaimSeven
namespace Go.Proofs.Qxb6500887aGreatDoor
namespace Rows

/-- THE TIED CARD OF 'arenalaw.BadAddressesAreRefused'. -/
def badAddressesAreRefusedCard : Claim7 := { stood := { row := badAddressesAreRefusedRow, standIns := [], harness := (true, "98e7aec5c3724184b9518dbdbe6bebdbd30c0560fb7f38cfac23eb8e1992e201"), looks := false }, kinds := [], alts := [], laidByText := true, laidKinds := [.widerDeep, .widerDeep], laidTests := true, laidLooks := .later }
def BadAddressesAreRefusedCardSaid : Prop := Claim7.holds Tryz.pinned (.plain (OpenSpec.ofChange badAddressesAreRefusedSpec)) badAddressesAreRefusedCard
end Rows
end Go.Proofs.Qxb6500887aGreatDoor
