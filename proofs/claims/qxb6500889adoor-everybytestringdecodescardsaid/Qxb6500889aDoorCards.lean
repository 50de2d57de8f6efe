/-
  DERIVED. GIVEN WITH THE SEED: THE CARDS: each row of Qxb6500889aDoorRows.lean that lists a variable, with what it lists TIED to the program's text (the seventh form; the later family's looks); each row that meets fmt, with fmt's text TOLD by the authors' own Lean function (tested against real Go, not proved from fmt's source: count such statements apart). THE CARD IS WHAT COUNTS. Prove the row's statement (the work); the ties are given (Qxb6500889aDoorTie.lean); close each card by the builder's one call (the guide's Derived/Test/ToyasCard.lean, 'card_holds'). Laid BY PROGRAM, IN A SANDBOX (cutbox-door.mjs). By AI agents, Wed Nov 11 2026. No macro, syntax, notation, axiom, sorry.
-/
import Derived.Test.Qxb6500889aDoorRows
import GoSem.ClaimSeven
namespace Go.Proofs.Qxb6500889aDoor
namespace Rows

/-- THE TIED CARD OF 'mutapilaw.BadHandlesAreRefused'. -/
def badHandlesAreRefusedCard : Claim7 := { stood := { row := badHandlesAreRefusedRow, standIns := [], harness := (true, "133a3c9885c88e9ae7718c8d5d2f13d0e391b7bd655046a774180d53a1d499ba"), looks := false }, kinds := [], alts := [], laidByText := true, laidKinds := [.data], laidTests := true, laidLooks := .later }
def BadHandlesAreRefusedCardSaid : Prop := Claim7.holds Tryd.pinned (.plain (OpenSpec.ofChange badHandlesAreRefusedSpec)) badHandlesAreRefusedCard

/-- THE TIED CARD OF 'mutapilaw.EveryByteStringDecodes'. -/
def everyByteStringDecodesCard : Claim7 := { stood := { row := everyByteStringDecodesRow, standIns := [], harness := (true, "133a3c9885c88e9ae7718c8d5d2f13d0e391b7bd655046a774180d53a1d499ba"), looks := false }, kinds := [], alts := [], laidByText := true, laidKinds := [.data, .mapped], laidTests := true, laidLooks := .later }
def EveryByteStringDecodesCardSaid : Prop := Claim7.holds Tryd.pinned (.plain (OpenSpec.ofChange everyByteStringDecodesSpec)) everyByteStringDecodesCard
end Rows
end Go.Proofs.Qxb6500889aDoor
