/-
  DERIVED. GIVEN WITH THE SEED: THE PROGRAM's TIES (one call each: nine closed facts by the kernel) AND EACH ROW's TIE, after the 31st guide's Derived/Test/Toyas{Tie, Card}.lean. No idea stands in it: it is a product of the set-up. Laid BY PROGRAM, IN A SANDBOX (cutbox-door.mjs). By AI agents, Wed Nov 11 2026. No macro, syntax, notation, axiom, sorry.
-/
import Derived.Test.YtolebnomgllgaaaGreatDoorRows
import Derived.LaidByTextLater
import Derived.SevenTiedAt
import Derived.LaidSub
import Derived.LaidOnce
namespace Go.Proofs.YtolebnomgllgaaaGreatDoor
open Go
set_option maxRecDepth 100000
theorem seatTie1 : Tryz.prog.laidByTextLater [("math/bits.deBruijn32tab", Rows.laid_math_bits_deBruijn32tab), ("math/bits.deBruijn64tab", Rows.laid_math_bits_deBruijn64tab), ("cupel/ranges.full", Rows.laid_cupel_ranges_full), ("cupel/ranges.none", Rows.laid_cupel_ranges_none), ("internal/strconv.uint64pow10", Rows.laid_internal_strconv_uint64pow10), ("cupel/syntax.keywords", Rows.laid_cupel_syntax_keywords), ("cupel/syntax.operators", Rows.laid_cupel_syntax_operators), ("cupel/syntax.levels", Rows.laid_cupel_syntax_levels), ("cupel/syntax.unary", Rows.laid_cupel_syntax_unary), ("cupel/syntax.scalars", Rows.laid_cupel_syntax_scalars), ("cupel/syntax.shapes", Rows.laid_cupel_syntax_shapes), ("cupel/types.none", Rows.laid_cupel_types_none), ("cupel/types.integer", Rows.laid_cupel_types_integer), ("cupel/types.small", Rows.laid_cupel_types_small), ("cupel/types.truth", Rows.laid_cupel_types_truth)] [.data, .data, .data, .data, .data, .widerDeep, .widerDeep, .data, .widerDeep, .data, .data, .data, .data, .data, .data] true :=
  Program.laidByTextLater_by_one 99 8 66 (by kernel_rfl) (by kernel_rfl) (by kernel_rfl) (by kernel_rfl) (by kernel_rfl) (by kernel_rfl) (fun _ _ => by kernel_rfl)
theorem noOwnUnsafe : Tryz.pinned.checked.prog.headLifts.contains "ownunsafe" = false := by kernel_rfl
theorem tie : Tryz.prog.laidByTextLater [("cupel/syntax.keywords", Rows.laid_cupel_syntax_keywords), ("cupel/syntax.shapes", Rows.laid_cupel_syntax_shapes), ("cupel/types.integer", Rows.laid_cupel_types_integer), ("cupel/types.small", Rows.laid_cupel_types_small), ("cupel/types.truth", Rows.laid_cupel_types_truth)] [.widerDeep, .data, .data, .data, .data] true :=
  Program.laidByTextLater.sub seatTie1 ["cupel/syntax.keywords", "cupel/syntax.shapes", "cupel/types.integer", "cupel/types.small", "cupel/types.truth"] (by kernel_rfl) (by kernel_rfl)
theorem semOperates_row_tie : Rows.semOperatesRow.laidByTextAt .later Tryz.pinned [.widerDeep, .data, .data, .data, .data] true :=
  OpenClaim.laidByTextAt_later rfl rfl tie noOwnUnsafe
theorem semAgrees_row_tie : Rows.semAgreesRow.laidByTextAt .later Tryz.pinned [.widerDeep, .data, .data, .data, .data] true :=
  OpenClaim.laidByTextAt_later rfl rfl tie noOwnUnsafe
theorem tie2 : Tryz.prog.laidByTextLater [("math/bits.deBruijn32tab", Rows.laid_math_bits_deBruijn32tab), ("math/bits.deBruijn64tab", Rows.laid_math_bits_deBruijn64tab), ("cupel/ranges.full", Rows.laid_cupel_ranges_full), ("cupel/ranges.none", Rows.laid_cupel_ranges_none), ("internal/strconv.uint64pow10", Rows.laid_internal_strconv_uint64pow10), ("cupel/syntax.keywords", Rows.laid_cupel_syntax_keywords), ("cupel/syntax.operators", Rows.laid_cupel_syntax_operators), ("cupel/syntax.levels", Rows.laid_cupel_syntax_levels), ("cupel/syntax.unary", Rows.laid_cupel_syntax_unary), ("cupel/syntax.scalars", Rows.laid_cupel_syntax_scalars), ("cupel/syntax.shapes", Rows.laid_cupel_syntax_shapes), ("cupel/types.none", Rows.laid_cupel_types_none), ("cupel/types.integer", Rows.laid_cupel_types_integer), ("cupel/types.small", Rows.laid_cupel_types_small), ("cupel/types.truth", Rows.laid_cupel_types_truth)] [.data, .data, .data, .data, .data, .widerDeep, .widerDeep, .data, .widerDeep, .data, .data, .data, .data, .data, .data] true :=
  Program.laidByTextLater.sub seatTie1 ["math/bits.deBruijn32tab", "math/bits.deBruijn64tab", "cupel/ranges.full", "cupel/ranges.none", "internal/strconv.uint64pow10", "cupel/syntax.keywords", "cupel/syntax.operators", "cupel/syntax.levels", "cupel/syntax.unary", "cupel/syntax.scalars", "cupel/syntax.shapes", "cupel/types.none", "cupel/types.integer", "cupel/types.small", "cupel/types.truth"] (by kernel_rfl) (by kernel_rfl)
theorem genNumbers_row_tie : Rows.genNumbersRow.laidByTextAt .later Tryz.pinned [.data, .data, .data, .data, .data, .widerDeep, .widerDeep, .data, .widerDeep, .data, .data, .data, .data, .data, .data] true :=
  OpenClaim.laidByTextAt_later rfl rfl tie2 noOwnUnsafe
theorem semOperatesUpto_row_tie : Rows.semOperatesUptoRow.laidByTextAt .later Tryz.pinned [.widerDeep, .data, .data, .data, .data] true :=
  OpenClaim.laidByTextAt_later rfl rfl tie noOwnUnsafe
theorem semAgreesUpto_row_tie : Rows.semAgreesUptoRow.laidByTextAt .later Tryz.pinned [.widerDeep, .data, .data, .data, .data] true :=
  OpenClaim.laidByTextAt_later rfl rfl tie noOwnUnsafe
theorem genNumbersUpto_row_tie : Rows.genNumbersUptoRow.laidByTextAt .later Tryz.pinned [.data, .data, .data, .data, .data, .widerDeep, .widerDeep, .data, .widerDeep, .data, .data, .data, .data, .data, .data] true :=
  OpenClaim.laidByTextAt_later rfl rfl tie2 noOwnUnsafe
end Go.Proofs.YtolebnomgllgaaaGreatDoor
