/-
  DERIVED. GIVEN WITH THE SEED: THE PROGRAM's TIES (one call each: nine closed facts by the kernel) AND EACH ROW's TIE, after the 31st guide's Derived/Test/Toyas{Tie, Card}.lean. No idea stands in it: it is a product of the set-up. Laid BY PROGRAM, IN A SANDBOX (cutbox-door.mjs). By AI agents, Wed Nov 11 2026. No macro, syntax, notation, axiom, sorry.
-/
import Derived.Test.Qxb6500883aGreatDoorRows
import Derived.LaidByTextLater
import Derived.SevenTiedAt
import Derived.LaidSub
import Derived.LaidOnce
namespace Go.Proofs.Qxb6500883aGreatDoor
open Go
set_option maxRecDepth 100000
theorem seatTie1 : Tryz.prog.laidByTextLater [("e2e/schema.builtins", Rows.laid_e2e_schema_builtins), ("e2e/schema.tokText", Rows.laid_e2e_schema_tokText), ("e2e/schema.keywords", Rows.laid_e2e_schema_keywords), ("e2e/schema.punctuation", Rows.laid_e2e_schema_punctuation), ("e2e/schemalaw.landmarks", Rows.laid_e2e_schemalaw_landmarks), ("e2e/schemalaw.basics", Rows.laid_e2e_schemalaw_basics)] [.called, .wider, .called, .data, .data, .data] true :=
  Program.laidByTextLater_by_one 635 8 257 (by kernel_rfl) (by kernel_rfl) (by kernel_rfl) (by kernel_rfl) (by kernel_rfl) (by kernel_rfl) (fun _ _ => by kernel_rfl)
theorem noOwnUnsafe : Tryz.pinned.checked.prog.headLifts.contains "ownunsafe" = false := by kernel_rfl
theorem tie : Tryz.prog.laidByTextLater [("e2e/schema.builtins", Rows.laid_e2e_schema_builtins), ("e2e/schema.tokText", Rows.laid_e2e_schema_tokText), ("e2e/schema.keywords", Rows.laid_e2e_schema_keywords), ("e2e/schema.punctuation", Rows.laid_e2e_schema_punctuation), ("e2e/schemalaw.landmarks", Rows.laid_e2e_schemalaw_landmarks), ("e2e/schemalaw.basics", Rows.laid_e2e_schemalaw_basics)] [.called, .wider, .called, .data, .data, .data] true :=
  Program.laidByTextLater.sub seatTie1 ["e2e/schema.builtins", "e2e/schema.tokText", "e2e/schema.keywords", "e2e/schema.punctuation", "e2e/schemalaw.landmarks", "e2e/schemalaw.basics"] (by kernel_rfl) (by kernel_rfl)
theorem printingThenReparsingIsIdentity_row_tie : Rows.printingThenReparsingIsIdentityRow.laidByTextAt .later Tryz.pinned [.called, .wider, .called, .data, .data, .data] true :=
  OpenClaim.laidByTextAt_later rfl rfl tie noOwnUnsafe
theorem errorsArePlaced_row_tie : Rows.errorsArePlacedRow.laidByTextAt .later Tryz.pinned [.called, .wider, .called, .data, .data, .data] true :=
  OpenClaim.laidByTextAt_later rfl rfl tie noOwnUnsafe
theorem nothingAcceptedCanOverflow_row_tie : Rows.nothingAcceptedCanOverflowRow.laidByTextAt .later Tryz.pinned [.called, .wider, .called, .data, .data, .data] true :=
  OpenClaim.laidByTextAt_later rfl rfl tie noOwnUnsafe
theorem tableIsACanonicalArena_row_tie : Rows.tableIsACanonicalArenaRow.laidByTextAt .later Tryz.pinned [.called, .wider, .called, .data, .data, .data] true :=
  OpenClaim.laidByTextAt_later rfl rfl tie noOwnUnsafe
end Go.Proofs.Qxb6500883aGreatDoor
