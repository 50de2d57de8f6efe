/-
  DERIVED. GIVEN WITH THE SEED: THE PROGRAM's TIES (one call each: nine closed facts by the kernel) AND EACH ROW's TIE, after the 31st guide's Derived/Test/Toyas{Tie, Card}.lean. No idea stands in it: it is a product of the set-up. Laid BY PROGRAM, IN A SANDBOX (cutbox-door.mjs). By AI agents, Wed Nov 11 2026. No macro, syntax, notation, axiom, sorry.
-/
import Derived.Test.Qxb6500889aDoorRows
import Derived.LaidByTextLater
import Derived.SevenTiedAt
import Derived.LaidSub
import Derived.LaidOnce
namespace Go.Proofs.Qxb6500889aDoor
open Go
set_option maxRecDepth 100000
theorem seatTie1 : Tryd.prog.laidByTextLater [("e2e/mutapi.arity", Rows.laid_e2e_mutapi_arity), ("e2e/mutapilaw.handleKinds", Rows.laid_e2e_mutapilaw_handleKinds), ("e2e/mutapilaw.arguments", Rows.laid_e2e_mutapilaw_arguments)] [.data, .data, .mapped] true :=
  Program.laidByTextLater_by_one 69 8 10 (by kernel_rfl) (by kernel_rfl) (by kernel_rfl) (by kernel_rfl) (by kernel_rfl) (by kernel_rfl) (fun _ _ => by kernel_rfl)
theorem noOwnUnsafe : Tryd.pinned.checked.prog.headLifts.contains "ownunsafe" = false := by kernel_rfl
theorem tie : Tryd.prog.laidByTextLater [("e2e/mutapilaw.handleKinds", Rows.laid_e2e_mutapilaw_handleKinds)] [.data] true :=
  Program.laidByTextLater.sub seatTie1 ["e2e/mutapilaw.handleKinds"] (by kernel_rfl) (by kernel_rfl)
theorem badHandlesAreRefused_row_tie : Rows.badHandlesAreRefusedRow.laidByTextAt .later Tryd.pinned [.data] true :=
  OpenClaim.laidByTextAt_later rfl rfl tie noOwnUnsafe
theorem tie2 : Tryd.prog.laidByTextLater [("e2e/mutapi.arity", Rows.laid_e2e_mutapi_arity), ("e2e/mutapilaw.arguments", Rows.laid_e2e_mutapilaw_arguments)] [.data, .mapped] true :=
  Program.laidByTextLater.sub seatTie1 ["e2e/mutapi.arity", "e2e/mutapilaw.arguments"] (by kernel_rfl) (by kernel_rfl)
theorem everyByteStringDecodes_row_tie : Rows.everyByteStringDecodesRow.laidByTextAt .later Tryd.pinned [.data, .mapped] true :=
  OpenClaim.laidByTextAt_later rfl rfl tie2 noOwnUnsafe
end Go.Proofs.Qxb6500889aDoor
