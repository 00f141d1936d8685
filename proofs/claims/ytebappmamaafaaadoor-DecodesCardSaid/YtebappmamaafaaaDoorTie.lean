/-
  DERIVED. GIVEN WITH THE SEED: THE PROGRAM's TIES (one call each: nine closed facts by the kernel) AND EACH ROW's TIE, after the 31st guide's Derived/Test/Toyas{Tie, Card}.lean. No idea stands in it: it is a product of the set-up. Laid BY PROGRAM, IN A SANDBOX (cutbox-door.mjs). By AI agents, Wed Nov 11 2026. No macro, syntax, notation, axiom, sorry.
-/
import Derived.Test.YtebappmamaafaaaDoorRows
import Derived.LaidByTextLater
import Derived.SevenTiedAt
import Derived.LaidSub
import Derived.LaidOnce
namespace Go.Proofs.YtebappmamaafaaaDoor
open Go
set_option maxRecDepth 100000
theorem seatTie1 : Tryd.prog.laidByTextLater [("errors.errorType", Rows.laid_errors_errorType), ("mlcore/code.Signs", Rows.laid_mlcore_code_Signs), ("mlcore/code.forms", Rows.laid_mlcore_code_forms)] [.handle, .data, .data] true :=
  Program.laidByTextLater_by_one 26 8 27 (by kernel_rfl) (by kernel_rfl) (by kernel_rfl) (by kernel_rfl) (by kernel_rfl) (by kernel_rfl) (fun _ _ => by kernel_rfl)
theorem noOwnUnsafe : Tryd.pinned.checked.prog.headLifts.contains "ownunsafe" = false := by kernel_rfl
theorem tie : Tryd.prog.laidByTextLater [("mlcore/code.forms", Rows.laid_mlcore_code_forms)] [.data] true :=
  Program.laidByTextLater.sub seatTie1 ["mlcore/code.forms"] (by kernel_rfl) (by kernel_rfl)
theorem encodes_row_tie : Rows.encodesRow.laidByTextAt .later Tryd.pinned [.data] true :=
  OpenClaim.laidByTextAt_later rfl rfl tie noOwnUnsafe
theorem tie2 : Tryd.prog.laidByTextLater [("mlcore/code.Signs", Rows.laid_mlcore_code_Signs)] [.data] true :=
  Program.laidByTextLater.sub seatTie1 ["mlcore/code.Signs"] (by kernel_rfl) (by kernel_rfl)
theorem checks_row_tie : Rows.checksRow.laidByTextAt .later Tryd.pinned [.data] true :=
  OpenClaim.laidByTextAt_later rfl rfl tie2 noOwnUnsafe
theorem tie3 : Tryd.prog.laidByTextLater [("errors.errorType", Rows.laid_errors_errorType), ("mlcore/code.forms", Rows.laid_mlcore_code_forms)] [.handle, .data] true :=
  Program.laidByTextLater.sub seatTie1 ["errors.errorType", "mlcore/code.forms"] (by kernel_rfl) (by kernel_rfl)
theorem decodes_row_tie : Rows.decodesRow.laidByTextAt .later Tryd.pinned [.handle, .data] true :=
  OpenClaim.laidByTextAt_later rfl rfl tie3 noOwnUnsafe
theorem round_row_tie : Rows.roundRow.laidByTextAt .later Tryd.pinned [.handle, .data] true :=
  OpenClaim.laidByTextAt_later rfl rfl tie3 noOwnUnsafe
theorem encodesUpto_row_tie : Rows.encodesUptoRow.laidByTextAt .later Tryd.pinned [.data] true :=
  OpenClaim.laidByTextAt_later rfl rfl tie noOwnUnsafe
theorem checksUpto_row_tie : Rows.checksUptoRow.laidByTextAt .later Tryd.pinned [.data] true :=
  OpenClaim.laidByTextAt_later rfl rfl tie2 noOwnUnsafe
theorem decodesUpto_row_tie : Rows.decodesUptoRow.laidByTextAt .later Tryd.pinned [.handle, .data] true :=
  OpenClaim.laidByTextAt_later rfl rfl tie3 noOwnUnsafe
theorem roundUpto_row_tie : Rows.roundUptoRow.laidByTextAt .later Tryd.pinned [.handle, .data] true :=
  OpenClaim.laidByTextAt_later rfl rfl tie3 noOwnUnsafe
end Go.Proofs.YtebappmamaafaaaDoor
