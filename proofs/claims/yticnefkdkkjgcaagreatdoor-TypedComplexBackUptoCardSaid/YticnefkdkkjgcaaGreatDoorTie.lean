/-
  DERIVED. GIVEN WITH THE SEED: THE PROGRAM's TIES (one call each: nine closed facts by the kernel) AND EACH ROW's TIE, after the 31st guide's Derived/Test/Toyas{Tie, Card}.lean. No idea stands in it: it is a product of the set-up. Laid BY PROGRAM, IN A SANDBOX (cutbox-door.mjs). By AI agents, Wed Nov 11 2026. No macro, syntax, notation, axiom, sorry.
-/
import Derived.Test.YticnefkdkkjgcaaGreatDoorRows
import Derived.LaidByTextLater
import Derived.SevenTiedAt
import Derived.LaidSub
import Derived.LaidOnce
namespace Go.Proofs.YticnefkdkkjgcaaGreatDoor
open Go
set_option maxRecDepth 100000
theorem seatTie1 : Tryz.prog.laidByTextLater [("math/bits.deBruijn32tab", Rows.laid_math_bits_deBruijn32tab), ("math/bits.deBruijn64tab", Rows.laid_math_bits_deBruijn64tab), ("internal/strconv.uint64pow10", Rows.laid_internal_strconv_uint64pow10), ("unicode/utf8.acceptRanges", Rows.laid_unicode_utf8_acceptRanges), ("errors.errorType", Rows.laid_errors_errorType), ("crucible/api.ErrArg", Rows.laid_crucible_api_ErrArg), ("crucible/api.ErrNil", Rows.laid_crucible_api_ErrNil), ("crucible/api.ErrInput", Rows.laid_crucible_api_ErrInput), ("crucible/api.ErrRep", Rows.laid_crucible_api_ErrRep), ("crucible/api.ErrLimit", Rows.laid_crucible_api_ErrLimit), ("crucible/api.ErrNone", Rows.laid_crucible_api_ErrNone), ("crucible/api.ErrBusy", Rows.laid_crucible_api_ErrBusy), ("crucible/api.ErrHandle", Rows.laid_crucible_api_ErrHandle), ("crucible/api.ErrKey", Rows.laid_crucible_api_ErrKey), ("crucible/api.ErrStopped", Rows.laid_crucible_api_ErrStopped), ("crucible/api.ErrScript", Rows.laid_crucible_api_ErrScript), ("crucible/ieee.shapes", Rows.laid_crucible_ieee_shapes), ("crucible/fault.errOther", Rows.laid_crucible_fault_errOther), ("crucible/typed.kinds", Rows.laid_crucible_typed_kinds)] [.data, .data, .data, .data, .handle, .sentinel, .sentinel, .sentinel, .sentinel, .sentinel, .sentinel, .sentinel, .sentinel, .sentinel, .sentinel, .sentinel, .data, .sentinel, .widerDeep] true :=
  Program.laidByTextLater_by_one 282 8 65 (by kernel_rfl) (by kernel_rfl) (by kernel_rfl) (by kernel_rfl) (by kernel_rfl) (by kernel_rfl) (fun _ _ => by kernel_rfl)
theorem pin_laid_unicode_utf8_first : Tryz.pinned.checked.prog.pinnedFits "unicode/utf8.first" = true := by kernel_rfl
theorem noOwnUnsafe : Tryz.pinned.checked.prog.headLifts.contains "ownunsafe" = false := by kernel_rfl
theorem fits1 : Tryz.pinned.checked.prog.listedFits [("math/bits.deBruijn32tab", Rows.laid_math_bits_deBruijn32tab), ("math/bits.deBruijn64tab", Rows.laid_math_bits_deBruijn64tab), ("internal/strconv.uint64pow10", Rows.laid_internal_strconv_uint64pow10), ("unicode/utf8.acceptRanges", Rows.laid_unicode_utf8_acceptRanges), ("errors.errorType", Rows.laid_errors_errorType), ("crucible/api.ErrArg", Rows.laid_crucible_api_ErrArg), ("crucible/api.ErrNil", Rows.laid_crucible_api_ErrNil), ("crucible/api.ErrInput", Rows.laid_crucible_api_ErrInput), ("crucible/api.ErrRep", Rows.laid_crucible_api_ErrRep), ("crucible/api.ErrLimit", Rows.laid_crucible_api_ErrLimit), ("crucible/api.ErrNone", Rows.laid_crucible_api_ErrNone), ("crucible/api.ErrBusy", Rows.laid_crucible_api_ErrBusy), ("crucible/api.ErrHandle", Rows.laid_crucible_api_ErrHandle), ("crucible/api.ErrKey", Rows.laid_crucible_api_ErrKey), ("crucible/api.ErrStopped", Rows.laid_crucible_api_ErrStopped), ("crucible/api.ErrScript", Rows.laid_crucible_api_ErrScript), ("crucible/ieee.shapes", Rows.laid_crucible_ieee_shapes), ("crucible/fault.errOther", Rows.laid_crucible_fault_errOther), ("crucible/typed.kinds", Rows.laid_crucible_typed_kinds), ("unicode/utf8.first", Rows.laid_unicode_utf8_first)] = true := by
  unfold Program.listedFits
  rw [noOwnUnsafe]
  kernel_rfl
theorem tie : Tryz.prog.laidByTextLater [("math/bits.deBruijn32tab", Rows.laid_math_bits_deBruijn32tab), ("math/bits.deBruijn64tab", Rows.laid_math_bits_deBruijn64tab), ("internal/strconv.uint64pow10", Rows.laid_internal_strconv_uint64pow10), ("unicode/utf8.acceptRanges", Rows.laid_unicode_utf8_acceptRanges), ("errors.errorType", Rows.laid_errors_errorType), ("crucible/api.ErrArg", Rows.laid_crucible_api_ErrArg), ("crucible/api.ErrNil", Rows.laid_crucible_api_ErrNil), ("crucible/api.ErrInput", Rows.laid_crucible_api_ErrInput), ("crucible/api.ErrRep", Rows.laid_crucible_api_ErrRep), ("crucible/api.ErrLimit", Rows.laid_crucible_api_ErrLimit), ("crucible/api.ErrNone", Rows.laid_crucible_api_ErrNone), ("crucible/api.ErrBusy", Rows.laid_crucible_api_ErrBusy), ("crucible/api.ErrHandle", Rows.laid_crucible_api_ErrHandle), ("crucible/api.ErrKey", Rows.laid_crucible_api_ErrKey), ("crucible/api.ErrStopped", Rows.laid_crucible_api_ErrStopped), ("crucible/api.ErrScript", Rows.laid_crucible_api_ErrScript), ("crucible/ieee.shapes", Rows.laid_crucible_ieee_shapes), ("crucible/fault.errOther", Rows.laid_crucible_fault_errOther), ("crucible/typed.kinds", Rows.laid_crucible_typed_kinds)] [.data, .data, .data, .data, .handle, .sentinel, .sentinel, .sentinel, .sentinel, .sentinel, .sentinel, .sentinel, .sentinel, .sentinel, .sentinel, .sentinel, .data, .sentinel, .widerDeep] true :=
  Program.laidByTextLater.sub seatTie1 ["math/bits.deBruijn32tab", "math/bits.deBruijn64tab", "internal/strconv.uint64pow10", "unicode/utf8.acceptRanges", "errors.errorType", "crucible/api.ErrArg", "crucible/api.ErrNil", "crucible/api.ErrInput", "crucible/api.ErrRep", "crucible/api.ErrLimit", "crucible/api.ErrNone", "crucible/api.ErrBusy", "crucible/api.ErrHandle", "crucible/api.ErrKey", "crucible/api.ErrStopped", "crucible/api.ErrScript", "crucible/ieee.shapes", "crucible/fault.errOther", "crucible/typed.kinds"] (by kernel_rfl) (by kernel_rfl)
theorem typedComplexBack_row_tie : Rows.typedComplexBackRow.laidByTextAt .later Tryz.pinned [.data, .data, .data, .data, .handle, .sentinel, .sentinel, .sentinel, .sentinel, .sentinel, .sentinel, .sentinel, .sentinel, .sentinel, .sentinel, .sentinel, .data, .sentinel, .widerDeep, .pinned] true :=
  OpenClaim.laidByTextAt_pinned rfl rfl tie rfl rfl rfl rfl (fun y hy _e => by
    simp only [Rows.typedComplexBackRow, List.zip_cons_cons, List.zip_nil_right, List.mem_cons, List.mem_nil_iff, or_false] at hy
    rcases hy with rfl | rfl | rfl | rfl | rfl | rfl | rfl | rfl | rfl | rfl | rfl | rfl | rfl | rfl | rfl | rfl | rfl | rfl | rfl | rfl
    · cases _e
    · cases _e
    · cases _e
    · cases _e
    · cases _e
    · cases _e
    · cases _e
    · cases _e
    · cases _e
    · cases _e
    · cases _e
    · cases _e
    · cases _e
    · cases _e
    · cases _e
    · cases _e
    · cases _e
    · cases _e
    · cases _e
    · exact ⟨pin_laid_unicode_utf8_first, by kernel_rfl⟩) fits1
theorem tie2 : Tryz.prog.laidByTextLater [("math/bits.deBruijn32tab", Rows.laid_math_bits_deBruijn32tab), ("math/bits.deBruijn64tab", Rows.laid_math_bits_deBruijn64tab), ("internal/strconv.uint64pow10", Rows.laid_internal_strconv_uint64pow10), ("errors.errorType", Rows.laid_errors_errorType), ("crucible/api.ErrArg", Rows.laid_crucible_api_ErrArg), ("crucible/api.ErrNil", Rows.laid_crucible_api_ErrNil), ("crucible/api.ErrInput", Rows.laid_crucible_api_ErrInput), ("crucible/api.ErrRep", Rows.laid_crucible_api_ErrRep), ("crucible/api.ErrLimit", Rows.laid_crucible_api_ErrLimit), ("crucible/api.ErrNone", Rows.laid_crucible_api_ErrNone), ("crucible/api.ErrBusy", Rows.laid_crucible_api_ErrBusy), ("crucible/api.ErrHandle", Rows.laid_crucible_api_ErrHandle), ("crucible/api.ErrKey", Rows.laid_crucible_api_ErrKey), ("crucible/api.ErrStopped", Rows.laid_crucible_api_ErrStopped), ("crucible/api.ErrScript", Rows.laid_crucible_api_ErrScript), ("crucible/ieee.shapes", Rows.laid_crucible_ieee_shapes), ("crucible/typed.kinds", Rows.laid_crucible_typed_kinds)] [.data, .data, .data, .handle, .sentinel, .sentinel, .sentinel, .sentinel, .sentinel, .sentinel, .sentinel, .sentinel, .sentinel, .sentinel, .sentinel, .data, .widerDeep] true :=
  Program.laidByTextLater.sub seatTie1 ["math/bits.deBruijn32tab", "math/bits.deBruijn64tab", "internal/strconv.uint64pow10", "errors.errorType", "crucible/api.ErrArg", "crucible/api.ErrNil", "crucible/api.ErrInput", "crucible/api.ErrRep", "crucible/api.ErrLimit", "crucible/api.ErrNone", "crucible/api.ErrBusy", "crucible/api.ErrHandle", "crucible/api.ErrKey", "crucible/api.ErrStopped", "crucible/api.ErrScript", "crucible/ieee.shapes", "crucible/typed.kinds"] (by kernel_rfl) (by kernel_rfl)
theorem typedBytes_row_tie : Rows.typedBytesRow.laidByTextAt .later Tryz.pinned [.data, .data, .data, .handle, .sentinel, .sentinel, .sentinel, .sentinel, .sentinel, .sentinel, .sentinel, .sentinel, .sentinel, .sentinel, .sentinel, .data, .widerDeep] true :=
  OpenClaim.laidByTextAt_later rfl rfl tie2 noOwnUnsafe
theorem typedComplexBackUpto_row_tie : Rows.typedComplexBackUptoRow.laidByTextAt .later Tryz.pinned [.data, .data, .data, .data, .handle, .sentinel, .sentinel, .sentinel, .sentinel, .sentinel, .sentinel, .sentinel, .sentinel, .sentinel, .sentinel, .sentinel, .data, .sentinel, .widerDeep, .pinned] true :=
  OpenClaim.laidByTextAt_pinned rfl rfl tie rfl rfl rfl rfl (fun y hy _e => by
    simp only [Rows.typedComplexBackUptoRow, List.zip_cons_cons, List.zip_nil_right, List.mem_cons, List.mem_nil_iff, or_false] at hy
    rcases hy with rfl | rfl | rfl | rfl | rfl | rfl | rfl | rfl | rfl | rfl | rfl | rfl | rfl | rfl | rfl | rfl | rfl | rfl | rfl | rfl
    · cases _e
    · cases _e
    · cases _e
    · cases _e
    · cases _e
    · cases _e
    · cases _e
    · cases _e
    · cases _e
    · cases _e
    · cases _e
    · cases _e
    · cases _e
    · cases _e
    · cases _e
    · cases _e
    · cases _e
    · cases _e
    · cases _e
    · exact ⟨pin_laid_unicode_utf8_first, by kernel_rfl⟩) fits1
theorem typedBytesUpto_row_tie : Rows.typedBytesUptoRow.laidByTextAt .later Tryz.pinned [.data, .data, .data, .handle, .sentinel, .sentinel, .sentinel, .sentinel, .sentinel, .sentinel, .sentinel, .sentinel, .sentinel, .sentinel, .sentinel, .data, .widerDeep] true :=
  OpenClaim.laidByTextAt_later rfl rfl tie2 noOwnUnsafe
end Go.Proofs.YticnefkdkkjgcaaGreatDoor
