/-
  DERIVED. GIVEN WITH THE SEED: THE CARDS: each row of Qxb6500883aGreatDoorRows.lean that lists a variable, with what it lists TIED to the program's text (the seventh form; the later family's looks); each row that meets fmt, with fmt's text TOLD by the authors' own Lean function (tested against real Go, not proved from fmt's source: count such statements apart). THE CARD IS WHAT COUNTS. Prove the row's statement (the work); the ties are given (Qxb6500883aGreatDoorTie.lean); close each card by the builder's one call (the guide's Derived/Test/ToyasCard.lean, 'card_holds'). Laid BY PROGRAM, IN A SANDBOX (cutbox-door.mjs). By AI agents, Wed Nov 11 2026. No macro, syntax, notation, axiom, sorry.
-/
import Derived.Test.Qxb6500883aGreatDoorRows
import GoSem.ClaimSeven
namespace Go.Proofs.Qxb6500883aGreatDoor
namespace Rows

/-- THE TIED CARD OF 'schemalaw.PrintingThenReparsingIsIdentity'. -/
def printingThenReparsingIsIdentityCard : Claim7 := { stood := { row := printingThenReparsingIsIdentityRow, standIns := [], harness := (true, "07646f3a65b15f6753d5f25d94b4213119adb2eb31e8adcf05e889b436b6c6a2"), looks := false }, kinds := [], alts := [], laidByText := true, laidKinds := [.called, .wider, .called, .data, .data, .data], laidTests := true, laidLooks := .later }
def PrintingThenReparsingIsIdentityCardSaid : Prop := Claim7.holds Tryz.pinned (.plain (OpenSpec.ofChange printingThenReparsingIsIdentitySpec)) printingThenReparsingIsIdentityCard

/-- THE TIED CARD OF 'schemalaw.ErrorsArePlaced'. -/
def errorsArePlacedCard : Claim7 := { stood := { row := errorsArePlacedRow, standIns := [], harness := (true, "07646f3a65b15f6753d5f25d94b4213119adb2eb31e8adcf05e889b436b6c6a2"), looks := false }, kinds := [], alts := [], laidByText := true, laidKinds := [.called, .wider, .called, .data, .data, .data], laidTests := true, laidLooks := .later }
def ErrorsArePlacedCardSaid : Prop := Claim7.holds Tryz.pinned (.plain (OpenSpec.ofChange errorsArePlacedSpec)) errorsArePlacedCard

/-- THE TIED CARD OF 'schemalaw.NothingAcceptedCanOverflow'. -/
def nothingAcceptedCanOverflowCard : Claim7 := { stood := { row := nothingAcceptedCanOverflowRow, standIns := [], harness := (true, "07646f3a65b15f6753d5f25d94b4213119adb2eb31e8adcf05e889b436b6c6a2"), looks := false }, kinds := [], alts := [], laidByText := true, laidKinds := [.called, .wider, .called, .data, .data, .data], laidTests := true, laidLooks := .later }
def NothingAcceptedCanOverflowCardSaid : Prop := Claim7.holds Tryz.pinned (.plain (OpenSpec.ofChange nothingAcceptedCanOverflowSpec)) nothingAcceptedCanOverflowCard

/-- THE TIED CARD OF 'schemalaw.TableIsACanonicalArena'. -/
def tableIsACanonicalArenaCard : Claim7 := { stood := { row := tableIsACanonicalArenaRow, standIns := [], harness := (true, "07646f3a65b15f6753d5f25d94b4213119adb2eb31e8adcf05e889b436b6c6a2"), looks := false }, kinds := [], alts := [], laidByText := true, laidKinds := [.called, .wider, .called, .data, .data, .data], laidTests := true, laidLooks := .later }
def TableIsACanonicalArenaCardSaid : Prop := Claim7.holds Tryz.pinned (.plain (OpenSpec.ofChange tableIsACanonicalArenaSpec)) tableIsACanonicalArenaCard
end Rows
end Go.Proofs.Qxb6500883aGreatDoor
