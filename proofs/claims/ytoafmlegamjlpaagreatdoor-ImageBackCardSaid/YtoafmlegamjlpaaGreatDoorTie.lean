/-
  DERIVED. GIVEN WITH THE SEED: THE PROGRAM's TIES (one call each: nine closed facts by the kernel) AND EACH ROW's TIE, after the 31st guide's Derived/Test/Toyas{Tie, Card}.lean. No idea stands in it: it is a product of the set-up. Laid BY PROGRAM, IN A SANDBOX (cutbox-door.mjs). By AI agents, Wed Nov 11 2026. No macro, syntax, notation, axiom, sorry.
-/
import Derived.Test.YtoafmlegamjlpaaGreatDoorRows
import Derived.LaidByTextLater
import Derived.SevenTiedAt
import Derived.LaidSub
import Derived.LaidOnce
namespace Go.Proofs.YtoafmlegamjlpaaGreatDoor
open Go
set_option maxRecDepth 100000
theorem seatTie1 : Tryz.prog.laidByTextLater [("columbarium/class.sizes", Rows.laid_columbarium_class_sizes), ("errors.errorType", Rows.laid_errors_errorType), ("columbarium/memory.fields", Rows.laid_columbarium_memory_fields), ("columbarium/head.nowhere", Rows.laid_columbarium_head_nowhere), ("columbarium/head.common", Rows.laid_columbarium_head_common), ("columbarium/head.own", Rows.laid_columbarium_head_own)] [.data, .handle, .widerDeep, .data, .data, .data] true :=
  Program.laidByTextLater_by_one 52 8 22 (by kernel_rfl) (by kernel_rfl) (by kernel_rfl) (by kernel_rfl) (by kernel_rfl) (by kernel_rfl) (fun _ _ => by kernel_rfl)
theorem noOwnUnsafe : Tryz.pinned.checked.prog.headLifts.contains "ownunsafe" = false := by kernel_rfl
theorem tie : Tryz.prog.laidByTextLater [("columbarium/class.sizes", Rows.laid_columbarium_class_sizes), ("errors.errorType", Rows.laid_errors_errorType), ("columbarium/memory.fields", Rows.laid_columbarium_memory_fields), ("columbarium/head.nowhere", Rows.laid_columbarium_head_nowhere), ("columbarium/head.common", Rows.laid_columbarium_head_common), ("columbarium/head.own", Rows.laid_columbarium_head_own)] [.data, .handle, .widerDeep, .data, .data, .data] true :=
  Program.laidByTextLater.sub seatTie1 ["columbarium/class.sizes", "errors.errorType", "columbarium/memory.fields", "columbarium/head.nowhere", "columbarium/head.common", "columbarium/head.own"] (by kernel_rfl) (by kernel_rfl)
theorem imageSqueezes_row_tie : Rows.imageSqueezesRow.laidByTextAt .later Tryz.pinned [.data, .handle, .widerDeep, .data, .data, .data] true :=
  OpenClaim.laidByTextAt_later rfl rfl tie noOwnUnsafe
theorem imageSpreads_row_tie : Rows.imageSpreadsRow.laidByTextAt .later Tryz.pinned [.data, .handle, .widerDeep, .data, .data, .data] true :=
  OpenClaim.laidByTextAt_later rfl rfl tie noOwnUnsafe
theorem imageBack_row_tie : Rows.imageBackRow.laidByTextAt .later Tryz.pinned [.data, .handle, .widerDeep, .data, .data, .data] true :=
  OpenClaim.laidByTextAt_later rfl rfl tie noOwnUnsafe
theorem imageOpens_row_tie : Rows.imageOpensRow.laidByTextAt .later Tryz.pinned [.data, .handle, .widerDeep, .data, .data, .data] true :=
  OpenClaim.laidByTextAt_later rfl rfl tie noOwnUnsafe
theorem imageSqueezesUpto_row_tie : Rows.imageSqueezesUptoRow.laidByTextAt .later Tryz.pinned [.data, .handle, .widerDeep, .data, .data, .data] true :=
  OpenClaim.laidByTextAt_later rfl rfl tie noOwnUnsafe
theorem imageSpreadsUpto_row_tie : Rows.imageSpreadsUptoRow.laidByTextAt .later Tryz.pinned [.data, .handle, .widerDeep, .data, .data, .data] true :=
  OpenClaim.laidByTextAt_later rfl rfl tie noOwnUnsafe
theorem imageBackUpto_row_tie : Rows.imageBackUptoRow.laidByTextAt .later Tryz.pinned [.data, .handle, .widerDeep, .data, .data, .data] true :=
  OpenClaim.laidByTextAt_later rfl rfl tie noOwnUnsafe
theorem imageOpensUpto_row_tie : Rows.imageOpensUptoRow.laidByTextAt .later Tryz.pinned [.data, .handle, .widerDeep, .data, .data, .data] true :=
  OpenClaim.laidByTextAt_later rfl rfl tie noOwnUnsafe
end Go.Proofs.YtoafmlegamjlpaaGreatDoor
