/-
  DERIVED. GIVEN WITH THE SEED: THE PROGRAM's TIES (one call each: nine closed facts by the kernel) AND EACH ROW's TIE, after the 31st guide's Derived/Test/Toyas{Tie, Card}.lean. No idea stands in it: it is a product of the set-up. Laid BY PROGRAM, IN A SANDBOX (cutbox-door.mjs). By AI agents, Wed Nov 11 2026. No macro, syntax, notation, axiom, sorry.
-/
import Derived.Test.Qxb6500890aDoorRows
import Derived.LaidByTextLater
import Derived.SevenTiedAt
import Derived.LaidSub
import Derived.LaidOnce
namespace Go.Proofs.Qxb6500890aDoor
open Go
set_option maxRecDepth 100000
theorem seatTie1 : Tryd.prog.laidByTextLater [("e2e/text.codeNames", Rows.laid_e2e_text_codeNames), ("e2e/textlaw.arithKinds", Rows.laid_e2e_textlaw_arithKinds)] [.data, .data] true :=
  Program.laidByTextLater_by_one 19 8 8 (by kernel_rfl) (by kernel_rfl) (by kernel_rfl) (by kernel_rfl) (by kernel_rfl) (by kernel_rfl) (fun _ _ => by kernel_rfl)
theorem noOwnUnsafe : Tryd.pinned.checked.prog.headLifts.contains "ownunsafe" = false := by kernel_rfl
theorem tie : Tryd.prog.laidByTextLater [("e2e/text.codeNames", Rows.laid_e2e_text_codeNames)] [.data] true :=
  Program.laidByTextLater.sub seatTie1 ["e2e/text.codeNames"] (by kernel_rfl) (by kernel_rfl)
theorem refinesModel_row_tie : Rows.refinesModelRow.laidByTextAt .later Tryd.pinned [.data] true :=
  OpenClaim.laidByTextAt_later rfl rfl tie noOwnUnsafe
theorem boundHolds_row_tie : Rows.boundHoldsRow.laidByTextAt .later Tryd.pinned [.data] true :=
  OpenClaim.laidByTextAt_later rfl rfl tie noOwnUnsafe
theorem tie2 : Tryd.prog.laidByTextLater [("e2e/textlaw.arithKinds", Rows.laid_e2e_textlaw_arithKinds)] [.data] true :=
  Program.laidByTextLater.sub seatTie1 ["e2e/textlaw.arithKinds"] (by kernel_rfl) (by kernel_rfl)
theorem checkedArithmetic_row_tie : Rows.checkedArithmeticRow.laidByTextAt .later Tryd.pinned [.data] true :=
  OpenClaim.laidByTextAt_later rfl rfl tie2 noOwnUnsafe
end Go.Proofs.Qxb6500890aDoor
