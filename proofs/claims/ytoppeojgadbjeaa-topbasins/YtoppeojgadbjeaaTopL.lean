/- The program's functions as the list machine has them: they are those of the abstract machine. -/
import Derived.Test.YtoppeojgadbjeaaTopL0
import Derived.Test.YtoppeojgadbjeaaTopF
set_option maxRecDepth 100000
namespace Go.Am.Top
open Go.Am
def LP : LProg := fun f => match f with
  | 4 => some top_TopBasins
  | 6 => some top_shored
  | 8 => some top_risingBelow
  | 10 => some style_Count
  | 11 => some style_Why
  | 12 => some top_stylesWork
  | 13 => some ebb_Sills
  | 14 => some ebb_Basin
  | 15 => some style_Fewest
  | 22 => some top_same
  | 28 => some style_opened
  | 29 => some style_table_count
  | 30 => some style_table_apart
  | 31 => some top_list
  | 32 => some style_First
  | 33 => some ebb_Check
  | 34 => some ebb_Shore_sills
  | 35 => some slices_Clone_int_int
  | 36 => some ebb_Shore_river
  | 37 => some ebb_at
  | 38 => some ebb_Shore_flood
  | 39 => some ebb_Basin_1
  | 40 => some math_bits_OnesCount
  | 41 => some slices_Compare_int_int
  | 49 => some slices_IndexFunc_int_int
  | 52 => some ebb_wrong
  | 55 => some style_set_with
  | 56 => some style_table_endings
  | 57 => some style_table_reach
  | 58 => some style_set_has
  | 59 => some style_table_may
  | 60 => some ebb_between
  | 61 => some slices_ContainsFunc_int_int
  | 62 => some ebb_Shore_beside
  | 63 => some slices_Sort_int_int
  | 64 => some math_bits_OnesCount32
  | 65 => some math_bits_OnesCount64
  | 66 => some cmp_Compare_int
  | 76 => some slices_ContainsFunc_style_set_style_set
  | 77 => some style_table_may_1
  | 78 => some ebb_Shore_beside_1
  | 79 => some slices_pdqsortOrdered_int
  | 80 => some math_bits_Len
  | 81 => some cmp_isNaN_int
  | 88 => some slices_IndexFunc_style_set_style_set
  | 89 => some slices_insertionSortOrdered_int
  | 90 => some slices_heapSortOrdered_int
  | 91 => some slices_breakPatternsOrdered_int
  | 92 => some slices_choosePivotOrdered_int
  | 93 => some slices_reverseRangeOrdered_int
  | 94 => some slices_partialInsertionSortOrdered_int
  | 95 => some cmp_Less_int
  | 96 => some slices_partitionEqualOrdered_int
  | 97 => some slices_partitionOrdered_int
  | 98 => some math_bits_Len32
  | 99 => some math_bits_Len64
  | 103 => some slices_siftDownOrdered_int
  | 104 => some slices_nextPowerOfTwo
  | 105 => some slices_xorshift_Next
  | 106 => some slices_medianAdjacentOrdered_int
  | 107 => some slices_medianOrdered_int
  | 117 => some slices_order2Ordered_int
  | 103400 => some ebb_Shore_sills_w0
  | 103401 => some ebb_Shore_sills_r0
  | 1103400 => some ebb_Shore_sills_h0
  | 103800 => some ebb_Shore_flood_w0
  | 103801 => some ebb_Shore_flood_r0
  | 1103800 => some ebb_Shore_flood_h0
  | _ => none
def LfOk (i : Nat) (lf : LFunc) : Prop := ∃ af,C i = some af ∧ af.results = lf.results ∧ af.body = lf.body.erase ∧ lf.body.good = true
theorem lp_top_TopBasins : LP n_top_TopBasins = some top_TopBasins := by kernel_rfl
theorem lok_top_TopBasins : LfOk 4 top_TopBasins := ⟨F4,by kernel_rfl,by kernel_rfl,by kernel_rfl,by kernel_rfl⟩
theorem lp_top_shored : LP n_top_shored = some top_shored := by kernel_rfl
theorem lok_top_shored : LfOk 6 top_shored := ⟨F6,by kernel_rfl,by kernel_rfl,by kernel_rfl,by kernel_rfl⟩
theorem lp_top_risingBelow : LP n_top_risingBelow = some top_risingBelow := by kernel_rfl
theorem lok_top_risingBelow : LfOk 8 top_risingBelow := ⟨F8,by kernel_rfl,by kernel_rfl,by kernel_rfl,by kernel_rfl⟩
theorem lp_style_Count : LP n_style_Count = some style_Count := by kernel_rfl
theorem lok_style_Count : LfOk 10 style_Count := ⟨F10,by kernel_rfl,by kernel_rfl,by kernel_rfl,by kernel_rfl⟩
theorem lp_style_Why : LP n_style_Why = some style_Why := by kernel_rfl
theorem lok_style_Why : LfOk 11 style_Why := ⟨F11,by kernel_rfl,by kernel_rfl,by kernel_rfl,by kernel_rfl⟩
theorem lp_top_stylesWork : LP n_top_stylesWork = some top_stylesWork := by kernel_rfl
theorem lok_top_stylesWork : LfOk 12 top_stylesWork := ⟨F12,by kernel_rfl,by kernel_rfl,by kernel_rfl,by kernel_rfl⟩
theorem lp_ebb_Sills : LP n_ebb_Sills = some ebb_Sills := by kernel_rfl
theorem lok_ebb_Sills : LfOk 13 ebb_Sills := ⟨F13,by kernel_rfl,by kernel_rfl,by kernel_rfl,by kernel_rfl⟩
theorem lp_ebb_Basin : LP n_ebb_Basin = some ebb_Basin := by kernel_rfl
theorem lok_ebb_Basin : LfOk 14 ebb_Basin := ⟨F14,by kernel_rfl,by kernel_rfl,by kernel_rfl,by kernel_rfl⟩
theorem lp_style_Fewest : LP n_style_Fewest = some style_Fewest := by kernel_rfl
theorem lok_style_Fewest : LfOk 15 style_Fewest := ⟨F15,by kernel_rfl,by kernel_rfl,by kernel_rfl,by kernel_rfl⟩
theorem lok_top_same : LfOk 22 top_same := ⟨F22,by kernel_rfl,by kernel_rfl,by kernel_rfl,by kernel_rfl⟩
theorem lp_style_opened : LP n_style_opened = some style_opened := by kernel_rfl
theorem lok_style_opened : LfOk 28 style_opened := ⟨F28,by kernel_rfl,by kernel_rfl,by kernel_rfl,by kernel_rfl⟩
theorem lp_style_table_count : LP n_style_table_count = some style_table_count := by kernel_rfl
theorem lok_style_table_count : LfOk 29 style_table_count := ⟨F29,by kernel_rfl,by kernel_rfl,by kernel_rfl,by kernel_rfl⟩
theorem lok_style_table_apart : LfOk 30 style_table_apart := ⟨F30,by kernel_rfl,by kernel_rfl,by kernel_rfl,by kernel_rfl⟩
theorem lok_top_list : LfOk 31 top_list := ⟨F31,by kernel_rfl,by kernel_rfl,by kernel_rfl,by kernel_rfl⟩
theorem lok_style_First : LfOk 32 style_First := ⟨F32,by kernel_rfl,by kernel_rfl,by kernel_rfl,by kernel_rfl⟩
theorem lp_ebb_Check : LP n_ebb_Check = some ebb_Check := by kernel_rfl
theorem lok_ebb_Check : LfOk 33 ebb_Check := ⟨F33,by kernel_rfl,by kernel_rfl,by kernel_rfl,by kernel_rfl⟩
theorem lp_ebb_Shore_sills : LP n_ebb_Shore_sills = some ebb_Shore_sills := by kernel_rfl
theorem lok_ebb_Shore_sills : LfOk 34 ebb_Shore_sills := ⟨F34,by kernel_rfl,by kernel_rfl,by kernel_rfl,by kernel_rfl⟩
theorem lp_slices_Clone_int_int : LP n_slices_Clone_int_int = some slices_Clone_int_int := by kernel_rfl
theorem lok_slices_Clone_int_int : LfOk 35 slices_Clone_int_int := ⟨F35,by kernel_rfl,by kernel_rfl,by kernel_rfl,by kernel_rfl⟩
theorem lp_ebb_Shore_river : LP n_ebb_Shore_river = some ebb_Shore_river := by kernel_rfl
theorem lok_ebb_Shore_river : LfOk 36 ebb_Shore_river := ⟨F36,by kernel_rfl,by kernel_rfl,by kernel_rfl,by kernel_rfl⟩
theorem lp_ebb_at : LP n_ebb_at = some ebb_at := by kernel_rfl
theorem lok_ebb_at : LfOk 37 ebb_at := ⟨F37,by kernel_rfl,by kernel_rfl,by kernel_rfl,by kernel_rfl⟩
theorem lp_ebb_Shore_flood : LP n_ebb_Shore_flood = some ebb_Shore_flood := by kernel_rfl
theorem lok_ebb_Shore_flood : LfOk 38 ebb_Shore_flood := ⟨F38,by kernel_rfl,by kernel_rfl,by kernel_rfl,by kernel_rfl⟩
theorem lp_ebb_Basin_1 : LP n_ebb_Basin_1 = some ebb_Basin_1 := by kernel_rfl
theorem lok_ebb_Basin_1 : LfOk 39 ebb_Basin_1 := ⟨F39,by kernel_rfl,by kernel_rfl,by kernel_rfl,by kernel_rfl⟩
theorem lp_math_bits_OnesCount : LP n_math_bits_OnesCount = some math_bits_OnesCount := by kernel_rfl
theorem lok_math_bits_OnesCount : LfOk 40 math_bits_OnesCount := ⟨F40,by kernel_rfl,by kernel_rfl,by kernel_rfl,by kernel_rfl⟩
theorem lok_slices_Compare_int_int : LfOk 41 slices_Compare_int_int := ⟨F41,by kernel_rfl,by kernel_rfl,by kernel_rfl,by kernel_rfl⟩
theorem lp_slices_IndexFunc_int_int : LP n_slices_IndexFunc_int_int = some slices_IndexFunc_int_int := by kernel_rfl
theorem lok_slices_IndexFunc_int_int : LfOk 49 slices_IndexFunc_int_int := ⟨F49,by kernel_rfl,by kernel_rfl,by kernel_rfl,by kernel_rfl⟩
theorem lp_ebb_wrong : LP n_ebb_wrong = some ebb_wrong := by kernel_rfl
theorem lok_ebb_wrong : LfOk 52 ebb_wrong := ⟨F52,by kernel_rfl,by kernel_rfl,by kernel_rfl,by kernel_rfl⟩
theorem lp_style_set_with : LP n_style_set_with = some style_set_with := by kernel_rfl
theorem lok_style_set_with : LfOk 55 style_set_with := ⟨F55,by kernel_rfl,by kernel_rfl,by kernel_rfl,by kernel_rfl⟩
theorem lp_style_table_endings : LP n_style_table_endings = some style_table_endings := by kernel_rfl
theorem lok_style_table_endings : LfOk 56 style_table_endings := ⟨F56,by kernel_rfl,by kernel_rfl,by kernel_rfl,by kernel_rfl⟩
theorem lok_style_table_reach : LfOk 57 style_table_reach := ⟨F57,by kernel_rfl,by kernel_rfl,by kernel_rfl,by kernel_rfl⟩
theorem lp_style_set_has : LP n_style_set_has = some style_set_has := by kernel_rfl
theorem lok_style_set_has : LfOk 58 style_set_has := ⟨F58,by kernel_rfl,by kernel_rfl,by kernel_rfl,by kernel_rfl⟩
theorem lp_style_table_may : LP n_style_table_may = some style_table_may := by kernel_rfl
theorem lok_style_table_may : LfOk 59 style_table_may := ⟨F59,by kernel_rfl,by kernel_rfl,by kernel_rfl,by kernel_rfl⟩
theorem lp_ebb_between : LP n_ebb_between = some ebb_between := by kernel_rfl
theorem lok_ebb_between : LfOk 60 ebb_between := ⟨F60,by kernel_rfl,by kernel_rfl,by kernel_rfl,by kernel_rfl⟩
theorem lp_slices_ContainsFunc_int_int : LP n_slices_ContainsFunc_int_int = some slices_ContainsFunc_int_int := by kernel_rfl
theorem lok_slices_ContainsFunc_int_int : LfOk 61 slices_ContainsFunc_int_int := ⟨F61,by kernel_rfl,by kernel_rfl,by kernel_rfl,by kernel_rfl⟩
theorem lp_ebb_Shore_beside : LP n_ebb_Shore_beside = some ebb_Shore_beside := by kernel_rfl
theorem lok_ebb_Shore_beside : LfOk 62 ebb_Shore_beside := ⟨F62,by kernel_rfl,by kernel_rfl,by kernel_rfl,by kernel_rfl⟩
theorem lp_slices_Sort_int_int : LP n_slices_Sort_int_int = some slices_Sort_int_int := by kernel_rfl
theorem lok_slices_Sort_int_int : LfOk 63 slices_Sort_int_int := ⟨F63,by kernel_rfl,by kernel_rfl,by kernel_rfl,by kernel_rfl⟩
theorem lok_math_bits_OnesCount32 : LfOk 64 math_bits_OnesCount32 := ⟨F64,by kernel_rfl,by kernel_rfl,by kernel_rfl,by kernel_rfl⟩
theorem lok_math_bits_OnesCount64 : LfOk 65 math_bits_OnesCount64 := ⟨F65,by kernel_rfl,by kernel_rfl,by kernel_rfl,by kernel_rfl⟩
theorem lok_cmp_Compare_int : LfOk 66 cmp_Compare_int := ⟨F66,by kernel_rfl,by kernel_rfl,by kernel_rfl,by kernel_rfl⟩
theorem lp_slices_ContainsFunc_style_set_style_set : LP n_slices_ContainsFunc_style_set_style_set = some slices_ContainsFunc_style_set_style_set := by kernel_rfl
theorem lok_slices_ContainsFunc_style_set_style_set : LfOk 76 slices_ContainsFunc_style_set_style_set := ⟨F76,by kernel_rfl,by kernel_rfl,by kernel_rfl,by kernel_rfl⟩
theorem lp_style_table_may_1 : LP n_style_table_may_1 = some style_table_may_1 := by kernel_rfl
theorem lok_style_table_may_1 : LfOk 77 style_table_may_1 := ⟨F77,by kernel_rfl,by kernel_rfl,by kernel_rfl,by kernel_rfl⟩
theorem lp_ebb_Shore_beside_1 : LP n_ebb_Shore_beside_1 = some ebb_Shore_beside_1 := by kernel_rfl
theorem lok_ebb_Shore_beside_1 : LfOk 78 ebb_Shore_beside_1 := ⟨F78,by kernel_rfl,by kernel_rfl,by kernel_rfl,by kernel_rfl⟩
theorem lp_slices_pdqsortOrdered_int : LP n_slices_pdqsortOrdered_int = some slices_pdqsortOrdered_int := by kernel_rfl
theorem lok_slices_pdqsortOrdered_int : LfOk 79 slices_pdqsortOrdered_int := ⟨F79,by kernel_rfl,by kernel_rfl,by kernel_rfl,by kernel_rfl⟩
theorem lp_math_bits_Len : LP n_math_bits_Len = some math_bits_Len := by kernel_rfl
theorem lok_math_bits_Len : LfOk 80 math_bits_Len := ⟨F80,by kernel_rfl,by kernel_rfl,by kernel_rfl,by kernel_rfl⟩
theorem lp_cmp_isNaN_int : LP n_cmp_isNaN_int = some cmp_isNaN_int := by kernel_rfl
theorem lok_cmp_isNaN_int : LfOk 81 cmp_isNaN_int := ⟨F81,by kernel_rfl,by kernel_rfl,by kernel_rfl,by kernel_rfl⟩
theorem lp_slices_IndexFunc_style_set_style_set : LP n_slices_IndexFunc_style_set_style_set = some slices_IndexFunc_style_set_style_set := by kernel_rfl
theorem lok_slices_IndexFunc_style_set_style_set : LfOk 88 slices_IndexFunc_style_set_style_set := ⟨F88,by kernel_rfl,by kernel_rfl,by kernel_rfl,by kernel_rfl⟩
theorem lp_slices_insertionSortOrdered_int : LP n_slices_insertionSortOrdered_int = some slices_insertionSortOrdered_int := by kernel_rfl
theorem lok_slices_insertionSortOrdered_int : LfOk 89 slices_insertionSortOrdered_int := ⟨F89,by kernel_rfl,by kernel_rfl,by kernel_rfl,by kernel_rfl⟩
theorem lok_slices_heapSortOrdered_int : LfOk 90 slices_heapSortOrdered_int := ⟨F90,by kernel_rfl,by kernel_rfl,by kernel_rfl,by kernel_rfl⟩
theorem lok_slices_breakPatternsOrdered_int : LfOk 91 slices_breakPatternsOrdered_int := ⟨F91,by kernel_rfl,by kernel_rfl,by kernel_rfl,by kernel_rfl⟩
theorem lok_slices_choosePivotOrdered_int : LfOk 92 slices_choosePivotOrdered_int := ⟨F92,by kernel_rfl,by kernel_rfl,by kernel_rfl,by kernel_rfl⟩
theorem lok_slices_reverseRangeOrdered_int : LfOk 93 slices_reverseRangeOrdered_int := ⟨F93,by kernel_rfl,by kernel_rfl,by kernel_rfl,by kernel_rfl⟩
theorem lok_slices_partialInsertionSortOrdered_int : LfOk 94 slices_partialInsertionSortOrdered_int := ⟨F94,by kernel_rfl,by kernel_rfl,by kernel_rfl,by kernel_rfl⟩
theorem lp_cmp_Less_int : LP n_cmp_Less_int = some cmp_Less_int := by kernel_rfl
theorem lok_cmp_Less_int : LfOk 95 cmp_Less_int := ⟨F95,by kernel_rfl,by kernel_rfl,by kernel_rfl,by kernel_rfl⟩
theorem lok_slices_partitionEqualOrdered_int : LfOk 96 slices_partitionEqualOrdered_int := ⟨F96,by kernel_rfl,by kernel_rfl,by kernel_rfl,by kernel_rfl⟩
theorem lok_slices_partitionOrdered_int : LfOk 97 slices_partitionOrdered_int := ⟨F97,by kernel_rfl,by kernel_rfl,by kernel_rfl,by kernel_rfl⟩
theorem lok_math_bits_Len32 : LfOk 98 math_bits_Len32 := ⟨F98,by kernel_rfl,by kernel_rfl,by kernel_rfl,by kernel_rfl⟩
theorem lok_math_bits_Len64 : LfOk 99 math_bits_Len64 := ⟨F99,by kernel_rfl,by kernel_rfl,by kernel_rfl,by kernel_rfl⟩
theorem lok_slices_siftDownOrdered_int : LfOk 103 slices_siftDownOrdered_int := ⟨F103,by kernel_rfl,by kernel_rfl,by kernel_rfl,by kernel_rfl⟩
theorem lok_slices_nextPowerOfTwo : LfOk 104 slices_nextPowerOfTwo := ⟨F104,by kernel_rfl,by kernel_rfl,by kernel_rfl,by kernel_rfl⟩
theorem lok_slices_xorshift_Next : LfOk 105 slices_xorshift_Next := ⟨F105,by kernel_rfl,by kernel_rfl,by kernel_rfl,by kernel_rfl⟩
theorem lok_slices_medianAdjacentOrdered_int : LfOk 106 slices_medianAdjacentOrdered_int := ⟨F106,by kernel_rfl,by kernel_rfl,by kernel_rfl,by kernel_rfl⟩
theorem lok_slices_medianOrdered_int : LfOk 107 slices_medianOrdered_int := ⟨F107,by kernel_rfl,by kernel_rfl,by kernel_rfl,by kernel_rfl⟩
theorem lok_slices_order2Ordered_int : LfOk 117 slices_order2Ordered_int := ⟨F117,by kernel_rfl,by kernel_rfl,by kernel_rfl,by kernel_rfl⟩
theorem lp_ebb_Shore_sills_w0 : LP n_ebb_Shore_sills_w0 = some ebb_Shore_sills_w0 := by kernel_rfl
theorem lok_ebb_Shore_sills_w0 : LfOk 103400 ebb_Shore_sills_w0 := ⟨F103400,by kernel_rfl,by kernel_rfl,by kernel_rfl,by kernel_rfl⟩
theorem lp_ebb_Shore_sills_r0 : LP n_ebb_Shore_sills_r0 = some ebb_Shore_sills_r0 := by kernel_rfl
theorem lok_ebb_Shore_sills_r0 : LfOk 103401 ebb_Shore_sills_r0 := ⟨F103401,by kernel_rfl,by kernel_rfl,by kernel_rfl,by kernel_rfl⟩
theorem lp_ebb_Shore_sills_h0 : LP n_ebb_Shore_sills_h0 = some ebb_Shore_sills_h0 := by kernel_rfl
theorem lok_ebb_Shore_sills_h0 : LfOk 1103400 ebb_Shore_sills_h0 := ⟨F1103400,by kernel_rfl,by kernel_rfl,by kernel_rfl,by kernel_rfl⟩
theorem lp_ebb_Shore_flood_w0 : LP n_ebb_Shore_flood_w0 = some ebb_Shore_flood_w0 := by kernel_rfl
theorem lok_ebb_Shore_flood_w0 : LfOk 103800 ebb_Shore_flood_w0 := ⟨F103800,by kernel_rfl,by kernel_rfl,by kernel_rfl,by kernel_rfl⟩
theorem lp_ebb_Shore_flood_r0 : LP n_ebb_Shore_flood_r0 = some ebb_Shore_flood_r0 := by kernel_rfl
theorem lok_ebb_Shore_flood_r0 : LfOk 103801 ebb_Shore_flood_r0 := ⟨F103801,by kernel_rfl,by kernel_rfl,by kernel_rfl,by kernel_rfl⟩
theorem lp_ebb_Shore_flood_h0 : LP n_ebb_Shore_flood_h0 = some ebb_Shore_flood_h0 := by kernel_rfl
theorem lok_ebb_Shore_flood_h0 : LfOk 1103800 ebb_Shore_flood_h0 := ⟨F1103800,by kernel_rfl,by kernel_rfl,by kernel_rfl,by kernel_rfl⟩
theorem top_TopBasins.L0_eq (e : LEnv) (m : LMem) : exF LP top_TopBasins.L0 e m = match exF LP top_TopBasins.B0 (LEnv.keep e [7,8,9,13,16,17,19,51,52,73,74,75,79,80,81,85,86,87]) m with | some (.normal,e',m') => exF LP top_TopBasins.L0 (LEnv.keep e' [7,8,9,13,16,17,19,51,52,73,74,75,79,80,81,85,86,87]) m' | r => r := exF_loop _ _ _ _ _
theorem top_TopBasins.L1_eq (e : LEnv) (m : LMem) : exF LP top_TopBasins.L1 e m = match exF LP top_TopBasins.B1 (LEnv.keep e [7,8,9,13,16,17,51,52,73,74,75,79,80,81]) m with | some (.normal,e',m') => exF LP top_TopBasins.L1 (LEnv.keep e' [7,8,9,13,16,17,51,52,73,74,75,79,80,81]) m' | r => r := exF_loop _ _ _ _ _
theorem top_TopBasins.L2_eq (e : LEnv) (m : LMem) : exF LP top_TopBasins.L2 e m = match exF LP top_TopBasins.B2 (LEnv.keep e [7,8,9,13,51,52,73,74,75]) m with | some (.normal,e',m') => exF LP top_TopBasins.L2 (LEnv.keep e' [7,8,9,13,51,52,73,74,75]) m' | r => r := exF_loop _ _ _ _ _
theorem top_TopBasins.L3_eq (e : LEnv) (m : LMem) : exF LP top_TopBasins.L3 e m = match exF LP top_TopBasins.B3 (LEnv.keep e [7,8,9,51,52]) m with | some (.normal,e',m') => exF LP top_TopBasins.L3 (LEnv.keep e' [7,8,9,51,52]) m' | r => r := exF_loop _ _ _ _ _
theorem top_shored.L0_eq (e : LEnv) (m : LMem) : exF LP top_shored.L0 e m = match exF LP top_shored.B0 (LEnv.keep e [6,7,29,30,31]) m with | some (.normal,e',m') => exF LP top_shored.L0 (LEnv.keep e' [6,7,29,30,31]) m' | r => r := exF_loop _ _ _ _ _
theorem top_risingBelow.L0_eq (e : LEnv) (m : LMem) : exF LP top_risingBelow.L0 e m = match exF LP top_risingBelow.B0 (LEnv.keep e [0,1,7,8,9]) m with | some (.normal,e',m') => exF LP top_risingBelow.L0 (LEnv.keep e' [0,1,7,8,9]) m' | r => r := exF_loop _ _ _ _ _
theorem style_Why.L0_eq (e : LEnv) (m : LMem) : exF LP style_Why.L0 e m = match exF LP style_Why.B0 (LEnv.keep e [6,7,8,9,24,25]) m with | some (.normal,e',m') => exF LP style_Why.L0 (LEnv.keep e' [6,7,8,9,24,25]) m' | r => r := exF_loop _ _ _ _ _
theorem style_Why.L1_eq (e : LEnv) (m : LMem) : exF LP style_Why.L1 e m = match exF LP style_Why.B1 (LEnv.keep e [6,7,8,24,25]) m with | some (.normal,e',m') => exF LP style_Why.L1 (LEnv.keep e' [6,7,8,24,25]) m' | r => r := exF_loop _ _ _ _ _
theorem style_Why.L2_eq (e : LEnv) (m : LMem) : exF LP style_Why.L2 e m = match exF LP style_Why.B2 (LEnv.keep e [6,24,25]) m with | some (.normal,e',m') => exF LP style_Why.L2 (LEnv.keep e' [6,24,25]) m' | r => r := exF_loop _ _ _ _ _
theorem style_Fewest.L0_eq (e : LEnv) (m : LMem) : exF LP style_Fewest.L0 e m = match exF LP style_Fewest.B0 (LEnv.keep e [4,6,7,8,9,10,28,29,44,45,46]) m with | some (.normal,e',m') => exF LP style_Fewest.L0 (LEnv.keep e' [4,6,7,8,9,10,28,29,44,45,46]) m' | r => r := exF_loop _ _ _ _ _
theorem style_Fewest.L1_eq (e : LEnv) (m : LMem) : exF LP style_Fewest.L1 e m = match exF LP style_Fewest.B1 (LEnv.keep e [4,6,7,28,29]) m with | some (.normal,e',m') => exF LP style_Fewest.L1 (LEnv.keep e' [4,6,7,28,29]) m' | r => r := exF_loop _ _ _ _ _
theorem top_same.L0_eq (e : LEnv) (m : LMem) : exF LP top_same.L0 e m = match exF LP top_same.B0 (LEnv.keep e [0,1,12,13]) m with | some (.normal,e',m') => exF LP top_same.L0 (LEnv.keep e' [0,1,12,13]) m' | r => r := exF_loop _ _ _ _ _
theorem style_opened.L0_eq (e : LEnv) (m : LMem) : exF LP style_opened.L0 e m = match exF LP style_opened.B0 (LEnv.keep e [1,2,4,7,8,31,32,33,41,42,43]) m with | some (.normal,e',m') => exF LP style_opened.L0 (LEnv.keep e' [1,2,4,7,8,31,32,33,41,42,43]) m' | r => r := exF_loop _ _ _ _ _
theorem style_opened.L1_eq (e : LEnv) (m : LMem) : exF LP style_opened.L1 e m = match exF LP style_opened.B1 (LEnv.keep e [1,2,4,31,32,33]) m with | some (.normal,e',m') => exF LP style_opened.L1 (LEnv.keep e' [1,2,4,31,32,33]) m' | r => r := exF_loop _ _ _ _ _
theorem style_First.L0_eq (e : LEnv) (m : LMem) : exF LP style_First.L0 e m = match exF LP style_First.B0 (LEnv.keep e [4,6,7,8,28,29,32,33]) m with | some (.normal,e',m') => exF LP style_First.L0 (LEnv.keep e' [4,6,7,8,28,29,32,33]) m' | r => r := exF_loop _ _ _ _ _
theorem style_First.L1_eq (e : LEnv) (m : LMem) : exF LP style_First.L1 e m = match exF LP style_First.B1 (LEnv.keep e [4,6,7,8,28,29]) m with | some (.normal,e',m') => exF LP style_First.L1 (LEnv.keep e' [4,6,7,8,28,29]) m' | r => r := exF_loop _ _ _ _ _
theorem ebb_Shore_sills.L0_eq (e : LEnv) (m : LMem) : exF LP ebb_Shore_sills.L0 e m = match exF LP ebb_Shore_sills.B0 (LEnv.keep e [1,2,3,4,9,14,15,70,71,72,73,74,75,76,77,78,79,80,81,82,83,84,85,86,87,88]) m with | some (.normal,e',m') => exF LP ebb_Shore_sills.L0 (LEnv.keep e' [1,2,3,4,9,14,15,70,71,72,73,74,75,76,77,78,79,80,81,82,83,84,85,86,87,88]) (trim m.length (envVals (LEnv.keep e' [1,2,3,4,9,14,15,70,71,72,73,74,75,76,77,78,79,80,81,82,83,84,85,86,87,88])) m') | r => r := exF_loop _ _ _ _ _
theorem ebb_Shore_sills.L1_eq (e : LEnv) (m : LMem) : exF LP ebb_Shore_sills.L1 e m = match exF LP ebb_Shore_sills.B1 (LEnv.keep e [1,2,3,4,6,9,36,37,39,40,41,70,71,72,73,74,75,76,77,78,79,80,81,82,83,84,85,86,87,88]) m with | some (.normal,e',m') => exF LP ebb_Shore_sills.L1 (LEnv.keep e' [1,2,3,4,6,9,36,37,39,40,41,70,71,72,73,74,75,76,77,78,79,80,81,82,83,84,85,86,87,88]) (trim m.length (envVals (LEnv.keep e' [1,2,3,4,6,9,36,37,39,40,41,70,71,72,73,74,75,76,77,78,79,80,81,82,83,84,85,86,87,88])) m') | r => r := exF_loop _ _ _ _ _
theorem ebb_Shore_sills.L2_eq (e : LEnv) (m : LMem) : exF LP ebb_Shore_sills.L2 e m = match exF LP ebb_Shore_sills.B2 (LEnv.keep e [1,2,3,4,9,36,37,70,71,72,73,74,75,76,77,78,79,80,81,82,83,84,85,86,87,88]) m with | some (.normal,e',m') => exF LP ebb_Shore_sills.L2 (LEnv.keep e' [1,2,3,4,9,36,37,70,71,72,73,74,75,76,77,78,79,80,81,82,83,84,85,86,87,88]) (trim m.length (envVals (LEnv.keep e' [1,2,3,4,9,36,37,70,71,72,73,74,75,76,77,78,79,80,81,82,83,84,85,86,87,88])) m') | r => r := exF_loop _ _ _ _ _
theorem ebb_Shore_flood.L0_eq (e : LEnv) (m : LMem) : exF LP ebb_Shore_flood.L0 e m = match exF LP ebb_Shore_flood.B0 (LEnv.keep e [3,5,7,8,9,11,39,40,41,42,43,44,45,46,47,48,49,50,51,52,53,54,55,56,57,58,59,60,61,62,63,64,65]) m with | some (.normal,e',m') => exF LP ebb_Shore_flood.L0 (LEnv.keep e' [3,5,7,8,9,11,39,40,41,42,43,44,45,46,47,48,49,50,51,52,53,54,55,56,57,58,59,60,61,62,63,64,65]) (trim m.length (envVals (LEnv.keep e' [3,5,7,8,9,11,39,40,41,42,43,44,45,46,47,48,49,50,51,52,53,54,55,56,57,58,59,60,61,62,63,64,65])) m') | r => r := exF_loop _ _ _ _ _
theorem slices_Compare_int_int.L0_eq (e : LEnv) (m : LMem) : exF LP slices_Compare_int_int.L0 e m = match exF LP slices_Compare_int_int.B0 (LEnv.keep e [0,1,9,10,11]) m with | some (.normal,e',m') => exF LP slices_Compare_int_int.L0 (LEnv.keep e' [0,1,9,10,11]) m' | r => r := exF_loop _ _ _ _ _
theorem slices_IndexFunc_int_int.L0_eq (e : LEnv) (m : LMem) : exF LP slices_IndexFunc_int_int.L0 e m = match exF LP slices_IndexFunc_int_int.B0 (LEnv.keep e [0,1,7,8]) m with | some (.normal,e',m') => exF LP slices_IndexFunc_int_int.L0 (LEnv.keep e' [0,1,7,8]) m' | r => r := exF_loop _ _ _ _ _
theorem style_table_endings.L0_eq (e : LEnv) (m : LMem) : exF LP style_table_endings.L0 e m = match exF LP style_table_endings.B0 (LEnv.keep e [1,3,4,23,24]) m with | some (.normal,e',m') => exF LP style_table_endings.L0 (LEnv.keep e' [1,3,4,23,24]) m' | r => r := exF_loop _ _ _ _ _
theorem style_table_endings.L1_eq (e : LEnv) (m : LMem) : exF LP style_table_endings.L1 e m = match exF LP style_table_endings.B1 (LEnv.keep e [1,3,4]) m with | some (.normal,e',m') => exF LP style_table_endings.L1 (LEnv.keep e' [1,3,4]) m' | r => r := exF_loop _ _ _ _ _
theorem style_table_reach.L0_eq (e : LEnv) (m : LMem) : exF LP style_table_reach.L0 e m = match exF LP style_table_reach.B0 (LEnv.keep e [2,3,7,8,15,16,17]) m with | some (.normal,e',m') => exF LP style_table_reach.L0 (LEnv.keep e' [2,3,7,8,15,16,17]) m' | r => r := exF_loop _ _ _ _ _
theorem style_table_reach.L1_eq (e : LEnv) (m : LMem) : exF LP style_table_reach.L1 e m = match exF LP style_table_reach.B1 (LEnv.keep e [2,3,7,8]) m with | some (.normal,e',m') => exF LP style_table_reach.L1 (LEnv.keep e' [2,3,7,8]) m' | r => r := exF_loop _ _ _ _ _
theorem ebb_Shore_beside_1.L0_eq (e : LEnv) (m : LMem) : exF LP ebb_Shore_beside_1.L0 e m = match exF LP ebb_Shore_beside_1.B0 (LEnv.keep e [0,1,2,18,19]) m with | some (.normal,e',m') => exF LP ebb_Shore_beside_1.L0 (LEnv.keep e' [0,1,2,18,19]) m' | r => r := exF_loop _ _ _ _ _
theorem slices_pdqsortOrdered_int.L0_eq (e : LEnv) (m : LMem) : exF LP slices_pdqsortOrdered_int.L0 e m = match exF LP slices_pdqsortOrdered_int.B0 (LEnv.keep e [0,1,2,3,8,9]) m with | some (.normal,e',m') => exF LP slices_pdqsortOrdered_int.L0 (LEnv.keep e' [0,1,2,3,8,9]) m' | r => r := exF_loop _ _ _ _ _
theorem slices_IndexFunc_style_set_style_set.L0_eq (e : LEnv) (m : LMem) : exF LP slices_IndexFunc_style_set_style_set.L0 e m = match exF LP slices_IndexFunc_style_set_style_set.B0 (LEnv.keep e [0,1,7,8]) m with | some (.normal,e',m') => exF LP slices_IndexFunc_style_set_style_set.L0 (LEnv.keep e' [0,1,7,8]) m' | r => r := exF_loop _ _ _ _ _
theorem slices_insertionSortOrdered_int.L0_eq (e : LEnv) (m : LMem) : exF LP slices_insertionSortOrdered_int.L0 e m = match exF LP slices_insertionSortOrdered_int.B0 (LEnv.keep e [0,1,2,6,7]) m with | some (.normal,e',m') => exF LP slices_insertionSortOrdered_int.L0 (LEnv.keep e' [0,1,2,6,7]) m' | r => r := exF_loop _ _ _ _ _
theorem slices_insertionSortOrdered_int.L1_eq (e : LEnv) (m : LMem) : exF LP slices_insertionSortOrdered_int.L1 e m = match exF LP slices_insertionSortOrdered_int.B1 (LEnv.keep e [0,1,2,6]) m with | some (.normal,e',m') => exF LP slices_insertionSortOrdered_int.L1 (LEnv.keep e' [0,1,2,6]) m' | r => r := exF_loop _ _ _ _ _
theorem slices_heapSortOrdered_int.L0_eq (e : LEnv) (m : LMem) : exF LP slices_heapSortOrdered_int.L0 e m = match exF LP slices_heapSortOrdered_int.B0 (LEnv.keep e [0,6,7,8,9]) m with | some (.normal,e',m') => exF LP slices_heapSortOrdered_int.L0 (LEnv.keep e' [0,6,7,8,9]) m' | r => r := exF_loop _ _ _ _ _
theorem slices_heapSortOrdered_int.L1_eq (e : LEnv) (m : LMem) : exF LP slices_heapSortOrdered_int.L1 e m = match exF LP slices_heapSortOrdered_int.B1 (LEnv.keep e [0,6,7,10]) m with | some (.normal,e',m') => exF LP slices_heapSortOrdered_int.L1 (LEnv.keep e' [0,6,7,10]) m' | r => r := exF_loop _ _ _ _ _
theorem slices_breakPatternsOrdered_int.L0_eq (e : LEnv) (m : LMem) : exF LP slices_breakPatternsOrdered_int.L0 e m = match exF LP slices_breakPatternsOrdered_int.B0 (LEnv.keep e [0,1,6,7,8,9]) m with | some (.normal,e',m') => exF LP slices_breakPatternsOrdered_int.L0 (LEnv.keep e' [0,1,6,7,8,9]) m' | r => r := exF_loop _ _ _ _ _
theorem slices_reverseRangeOrdered_int.L0_eq (e : LEnv) (m : LMem) : exF LP slices_reverseRangeOrdered_int.L0 e m = match exF LP slices_reverseRangeOrdered_int.B0 (LEnv.keep e [0,6,7]) m with | some (.normal,e',m') => exF LP slices_reverseRangeOrdered_int.L0 (LEnv.keep e' [0,6,7]) m' | r => r := exF_loop _ _ _ _ _
theorem slices_partialInsertionSortOrdered_int.L0_eq (e : LEnv) (m : LMem) : exF LP slices_partialInsertionSortOrdered_int.L0 e m = match exF LP slices_partialInsertionSortOrdered_int.B0 (LEnv.keep e [0,1,2,7,8]) m with | some (.normal,e',m') => exF LP slices_partialInsertionSortOrdered_int.L0 (LEnv.keep e' [0,1,2,7,8]) m' | r => r := exF_loop _ _ _ _ _
theorem slices_partialInsertionSortOrdered_int.L1_eq (e : LEnv) (m : LMem) : exF LP slices_partialInsertionSortOrdered_int.L1 e m = match exF LP slices_partialInsertionSortOrdered_int.B1 (LEnv.keep e [0,1,2,7,8,9]) m with | some (.normal,e',m') => exF LP slices_partialInsertionSortOrdered_int.L1 (LEnv.keep e' [0,1,2,7,8,9]) m' | r => r := exF_loop _ _ _ _ _
theorem slices_partialInsertionSortOrdered_int.L2_eq (e : LEnv) (m : LMem) : exF LP slices_partialInsertionSortOrdered_int.L2 e m = match exF LP slices_partialInsertionSortOrdered_int.B2 (LEnv.keep e [0,1,2,7,8,10]) m with | some (.normal,e',m') => exF LP slices_partialInsertionSortOrdered_int.L2 (LEnv.keep e' [0,1,2,7,8,10]) m' | r => r := exF_loop _ _ _ _ _
theorem slices_partialInsertionSortOrdered_int.L3_eq (e : LEnv) (m : LMem) : exF LP slices_partialInsertionSortOrdered_int.L3 e m = match exF LP slices_partialInsertionSortOrdered_int.B3 (LEnv.keep e [0,1,2,7,8]) m with | some (.normal,e',m') => exF LP slices_partialInsertionSortOrdered_int.L3 (LEnv.keep e' [0,1,2,7,8]) m' | r => r := exF_loop _ _ _ _ _
theorem slices_partitionEqualOrdered_int.L0_eq (e : LEnv) (m : LMem) : exF LP slices_partitionEqualOrdered_int.L0 e m = match exF LP slices_partitionEqualOrdered_int.B0 (LEnv.keep e [0,1,9,10]) m with | some (.normal,e',m') => exF LP slices_partitionEqualOrdered_int.L0 (LEnv.keep e' [0,1,9,10]) m' | r => r := exF_loop _ _ _ _ _
theorem slices_partitionEqualOrdered_int.L1_eq (e : LEnv) (m : LMem) : exF LP slices_partitionEqualOrdered_int.L1 e m = match exF LP slices_partitionEqualOrdered_int.B1 (LEnv.keep e [0,1,9,10]) m with | some (.normal,e',m') => exF LP slices_partitionEqualOrdered_int.L1 (LEnv.keep e' [0,1,9,10]) m' | r => r := exF_loop _ _ _ _ _
theorem slices_partitionEqualOrdered_int.L2_eq (e : LEnv) (m : LMem) : exF LP slices_partitionEqualOrdered_int.L2 e m = match exF LP slices_partitionEqualOrdered_int.B2 (LEnv.keep e [0,1,9,10]) m with | some (.normal,e',m') => exF LP slices_partitionEqualOrdered_int.L2 (LEnv.keep e' [0,1,9,10]) m' | r => r := exF_loop _ _ _ _ _
theorem slices_partitionOrdered_int.L0_eq (e : LEnv) (m : LMem) : exF LP slices_partitionOrdered_int.L0 e m = match exF LP slices_partitionOrdered_int.B0 (LEnv.keep e [0,1,10,11]) m with | some (.normal,e',m') => exF LP slices_partitionOrdered_int.L0 (LEnv.keep e' [0,1,10,11]) m' | r => r := exF_loop _ _ _ _ _
theorem slices_partitionOrdered_int.L1_eq (e : LEnv) (m : LMem) : exF LP slices_partitionOrdered_int.L1 e m = match exF LP slices_partitionOrdered_int.B1 (LEnv.keep e [0,1,10,11]) m with | some (.normal,e',m') => exF LP slices_partitionOrdered_int.L1 (LEnv.keep e' [0,1,10,11]) m' | r => r := exF_loop _ _ _ _ _
theorem slices_partitionOrdered_int.L2_eq (e : LEnv) (m : LMem) : exF LP slices_partitionOrdered_int.L2 e m = match exF LP slices_partitionOrdered_int.B2 (LEnv.keep e [0,1,10,11]) m with | some (.normal,e',m') => exF LP slices_partitionOrdered_int.L2 (LEnv.keep e' [0,1,10,11]) m' | r => r := exF_loop _ _ _ _ _
theorem slices_partitionOrdered_int.L3_eq (e : LEnv) (m : LMem) : exF LP slices_partitionOrdered_int.L3 e m = match exF LP slices_partitionOrdered_int.B3 (LEnv.keep e [0,1,10,11]) m with | some (.normal,e',m') => exF LP slices_partitionOrdered_int.L3 (LEnv.keep e' [0,1,10,11]) m' | r => r := exF_loop _ _ _ _ _
theorem slices_siftDownOrdered_int.L0_eq (e : LEnv) (m : LMem) : exF LP slices_siftDownOrdered_int.L0 e m = match exF LP slices_siftDownOrdered_int.B0 (LEnv.keep e [0,2,3,8]) m with | some (.normal,e',m') => exF LP slices_siftDownOrdered_int.L0 (LEnv.keep e' [0,2,3,8]) m' | r => r := exF_loop _ _ _ _ _
theorem progL : ProgL LP C := by
  intro f lf h
  unfold LP at h
  split at h
  · cases h; exact lok_top_TopBasins
  · cases h; exact lok_top_shored
  · cases h; exact lok_top_risingBelow
  · cases h; exact lok_style_Count
  · cases h; exact lok_style_Why
  · cases h; exact lok_top_stylesWork
  · cases h; exact lok_ebb_Sills
  · cases h; exact lok_ebb_Basin
  · cases h; exact lok_style_Fewest
  · cases h; exact lok_top_same
  · cases h; exact lok_style_opened
  · cases h; exact lok_style_table_count
  · cases h; exact lok_style_table_apart
  · cases h; exact lok_top_list
  · cases h; exact lok_style_First
  · cases h; exact lok_ebb_Check
  · cases h; exact lok_ebb_Shore_sills
  · cases h; exact lok_slices_Clone_int_int
  · cases h; exact lok_ebb_Shore_river
  · cases h; exact lok_ebb_at
  · cases h; exact lok_ebb_Shore_flood
  · cases h; exact lok_ebb_Basin_1
  · cases h; exact lok_math_bits_OnesCount
  · cases h; exact lok_slices_Compare_int_int
  · cases h; exact lok_slices_IndexFunc_int_int
  · cases h; exact lok_ebb_wrong
  · cases h; exact lok_style_set_with
  · cases h; exact lok_style_table_endings
  · cases h; exact lok_style_table_reach
  · cases h; exact lok_style_set_has
  · cases h; exact lok_style_table_may
  · cases h; exact lok_ebb_between
  · cases h; exact lok_slices_ContainsFunc_int_int
  · cases h; exact lok_ebb_Shore_beside
  · cases h; exact lok_slices_Sort_int_int
  · cases h; exact lok_math_bits_OnesCount32
  · cases h; exact lok_math_bits_OnesCount64
  · cases h; exact lok_cmp_Compare_int
  · cases h; exact lok_slices_ContainsFunc_style_set_style_set
  · cases h; exact lok_style_table_may_1
  · cases h; exact lok_ebb_Shore_beside_1
  · cases h; exact lok_slices_pdqsortOrdered_int
  · cases h; exact lok_math_bits_Len
  · cases h; exact lok_cmp_isNaN_int
  · cases h; exact lok_slices_IndexFunc_style_set_style_set
  · cases h; exact lok_slices_insertionSortOrdered_int
  · cases h; exact lok_slices_heapSortOrdered_int
  · cases h; exact lok_slices_breakPatternsOrdered_int
  · cases h; exact lok_slices_choosePivotOrdered_int
  · cases h; exact lok_slices_reverseRangeOrdered_int
  · cases h; exact lok_slices_partialInsertionSortOrdered_int
  · cases h; exact lok_cmp_Less_int
  · cases h; exact lok_slices_partitionEqualOrdered_int
  · cases h; exact lok_slices_partitionOrdered_int
  · cases h; exact lok_math_bits_Len32
  · cases h; exact lok_math_bits_Len64
  · cases h; exact lok_slices_siftDownOrdered_int
  · cases h; exact lok_slices_nextPowerOfTwo
  · cases h; exact lok_slices_xorshift_Next
  · cases h; exact lok_slices_medianAdjacentOrdered_int
  · cases h; exact lok_slices_medianOrdered_int
  · cases h; exact lok_slices_order2Ordered_int
  · cases h; exact lok_ebb_Shore_sills_w0
  · cases h; exact lok_ebb_Shore_sills_r0
  · cases h; exact lok_ebb_Shore_sills_h0
  · cases h; exact lok_ebb_Shore_flood_w0
  · cases h; exact lok_ebb_Shore_flood_r0
  · cases h; exact lok_ebb_Shore_flood_h0
  · cases h
end Go.Am.Top
