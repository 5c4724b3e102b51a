/- The program's functions as the list machine has them: they are those of the abstract machine. -/
import Derived.Test.YtoppeojgadbjeaaTopL0
import Derived.Test.YtoppeojgadbjeaaTopF
set_option maxRecDepth 100000
namespace Go.Am.Top
open Go.Am
def LP : LProg := fun f => match f with
  | 3 => some top_TopNested
  | 6 => some top_shored
  | 7 => some ebb_Bare
  | 8 => some top_risingBelow
  | 9 => some style_Whole
  | 10 => some style_Count
  | 11 => some style_Why
  | 12 => some top_stylesWork
  | 13 => some ebb_Sills
  | 22 => some top_same
  | 26 => some ebb_depths
  | 27 => some style_Gaps
  | 28 => some style_opened
  | 29 => some style_table_count
  | 30 => some style_table_apart
  | 31 => some top_list
  | 32 => some style_First
  | 33 => some ebb_Check
  | 34 => some ebb_Shore_sills
  | 35 => some slices_Clone_int_int
  | 36 => some ebb_Shore_river
  | 42 => some math_bits_Mul
  | 49 => some slices_IndexFunc_int_int
  | 52 => some ebb_wrong
  | 53 => some style_shown
  | 54 => some style_set_gaps
  | 55 => some style_set_with
  | 56 => some style_table_endings
  | 57 => some style_table_reach
  | 58 => some style_set_has
  | 59 => some style_table_may
  | 60 => some ebb_between
  | 61 => some slices_ContainsFunc_int_int
  | 62 => some ebb_Shore_beside
  | 67 => some math_bits_Mul32
  | 68 => some math_bits_Mul64
  | 74 => some style_table_places
  | 75 => some style_set_size
  | 76 => some slices_ContainsFunc_style_set_style_set
  | 77 => some style_table_may_1
  | 78 => some ebb_Shore_beside_1
  | 86 => some slices_Repeat_int_int
  | 87 => some math_bits_OnesCount8
  | 88 => some slices_IndexFunc_style_set_style_set
  | 103400 => some ebb_Shore_sills_w0
  | 103401 => some ebb_Shore_sills_r0
  | 1103400 => some ebb_Shore_sills_h0
  | _ => none
def LfOk (i : Nat) (lf : LFunc) : Prop := ∃ af,C i = some af ∧ af.results = lf.results ∧ af.body = lf.body.erase ∧ lf.body.good = true
theorem lp_top_TopNested : LP n_top_TopNested = some top_TopNested := by kernel_rfl
theorem lok_top_TopNested : LfOk 3 top_TopNested := ⟨F3,by kernel_rfl,by kernel_rfl,by kernel_rfl,by kernel_rfl⟩
theorem lp_top_shored : LP n_top_shored = some top_shored := by kernel_rfl
theorem lok_top_shored : LfOk 6 top_shored := ⟨F6,by kernel_rfl,by kernel_rfl,by kernel_rfl,by kernel_rfl⟩
theorem lp_ebb_Bare : LP n_ebb_Bare = some ebb_Bare := by kernel_rfl
theorem lok_ebb_Bare : LfOk 7 ebb_Bare := ⟨F7,by kernel_rfl,by kernel_rfl,by kernel_rfl,by kernel_rfl⟩
theorem lp_top_risingBelow : LP n_top_risingBelow = some top_risingBelow := by kernel_rfl
theorem lok_top_risingBelow : LfOk 8 top_risingBelow := ⟨F8,by kernel_rfl,by kernel_rfl,by kernel_rfl,by kernel_rfl⟩
theorem lp_style_Whole : LP n_style_Whole = some style_Whole := by kernel_rfl
theorem lok_style_Whole : LfOk 9 style_Whole := ⟨F9,by kernel_rfl,by kernel_rfl,by kernel_rfl,by kernel_rfl⟩
theorem lp_style_Count : LP n_style_Count = some style_Count := by kernel_rfl
theorem lok_style_Count : LfOk 10 style_Count := ⟨F10,by kernel_rfl,by kernel_rfl,by kernel_rfl,by kernel_rfl⟩
theorem lp_style_Why : LP n_style_Why = some style_Why := by kernel_rfl
theorem lok_style_Why : LfOk 11 style_Why := ⟨F11,by kernel_rfl,by kernel_rfl,by kernel_rfl,by kernel_rfl⟩
theorem lp_top_stylesWork : LP n_top_stylesWork = some top_stylesWork := by kernel_rfl
theorem lok_top_stylesWork : LfOk 12 top_stylesWork := ⟨F12,by kernel_rfl,by kernel_rfl,by kernel_rfl,by kernel_rfl⟩
theorem lok_ebb_Sills : LfOk 13 ebb_Sills := ⟨F13,by kernel_rfl,by kernel_rfl,by kernel_rfl,by kernel_rfl⟩
theorem lok_top_same : LfOk 22 top_same := ⟨F22,by kernel_rfl,by kernel_rfl,by kernel_rfl,by kernel_rfl⟩
theorem lp_ebb_depths : LP n_ebb_depths = some ebb_depths := by kernel_rfl
theorem lok_ebb_depths : LfOk 26 ebb_depths := ⟨F26,by kernel_rfl,by kernel_rfl,by kernel_rfl,by kernel_rfl⟩
theorem lp_style_Gaps : LP n_style_Gaps = some style_Gaps := by kernel_rfl
theorem lok_style_Gaps : LfOk 27 style_Gaps := ⟨F27,by kernel_rfl,by kernel_rfl,by kernel_rfl,by kernel_rfl⟩
theorem lp_style_opened : LP n_style_opened = some style_opened := by kernel_rfl
theorem lok_style_opened : LfOk 28 style_opened := ⟨F28,by kernel_rfl,by kernel_rfl,by kernel_rfl,by kernel_rfl⟩
theorem lp_style_table_count : LP n_style_table_count = some style_table_count := by kernel_rfl
theorem lok_style_table_count : LfOk 29 style_table_count := ⟨F29,by kernel_rfl,by kernel_rfl,by kernel_rfl,by kernel_rfl⟩
theorem lok_style_table_apart : LfOk 30 style_table_apart := ⟨F30,by kernel_rfl,by kernel_rfl,by kernel_rfl,by kernel_rfl⟩
theorem lok_top_list : LfOk 31 top_list := ⟨F31,by kernel_rfl,by kernel_rfl,by kernel_rfl,by kernel_rfl⟩
theorem lok_style_First : LfOk 32 style_First := ⟨F32,by kernel_rfl,by kernel_rfl,by kernel_rfl,by kernel_rfl⟩
theorem lp_ebb_Check : LP n_ebb_Check = some ebb_Check := by kernel_rfl
theorem lok_ebb_Check : LfOk 33 ebb_Check := ⟨F33,by kernel_rfl,by kernel_rfl,by kernel_rfl,by kernel_rfl⟩
theorem lp_ebb_Shore_sills : LP n_ebb_Shore_sills = some ebb_Shore_sills := by kernel_rfl
theorem lok_ebb_Shore_sills : LfOk 34 ebb_Shore_sills := ⟨F34,by kernel_rfl,by kernel_rfl,by kernel_rfl,by kernel_rfl⟩
theorem lok_slices_Clone_int_int : LfOk 35 slices_Clone_int_int := ⟨F35,by kernel_rfl,by kernel_rfl,by kernel_rfl,by kernel_rfl⟩
theorem lp_ebb_Shore_river : LP n_ebb_Shore_river = some ebb_Shore_river := by kernel_rfl
theorem lok_ebb_Shore_river : LfOk 36 ebb_Shore_river := ⟨F36,by kernel_rfl,by kernel_rfl,by kernel_rfl,by kernel_rfl⟩
theorem lok_math_bits_Mul : LfOk 42 math_bits_Mul := ⟨F42,by kernel_rfl,by kernel_rfl,by kernel_rfl,by kernel_rfl⟩
theorem lp_slices_IndexFunc_int_int : LP n_slices_IndexFunc_int_int = some slices_IndexFunc_int_int := by kernel_rfl
theorem lok_slices_IndexFunc_int_int : LfOk 49 slices_IndexFunc_int_int := ⟨F49,by kernel_rfl,by kernel_rfl,by kernel_rfl,by kernel_rfl⟩
theorem lp_ebb_wrong : LP n_ebb_wrong = some ebb_wrong := by kernel_rfl
theorem lok_ebb_wrong : LfOk 52 ebb_wrong := ⟨F52,by kernel_rfl,by kernel_rfl,by kernel_rfl,by kernel_rfl⟩
theorem lp_style_shown : LP n_style_shown = some style_shown := by kernel_rfl
theorem lok_style_shown : LfOk 53 style_shown := ⟨F53,by kernel_rfl,by kernel_rfl,by kernel_rfl,by kernel_rfl⟩
theorem lp_style_set_gaps : LP n_style_set_gaps = some style_set_gaps := by kernel_rfl
theorem lok_style_set_gaps : LfOk 54 style_set_gaps := ⟨F54,by kernel_rfl,by kernel_rfl,by kernel_rfl,by kernel_rfl⟩
theorem lp_style_set_with : LP n_style_set_with = some style_set_with := by kernel_rfl
theorem lok_style_set_with : LfOk 55 style_set_with := ⟨F55,by kernel_rfl,by kernel_rfl,by kernel_rfl,by kernel_rfl⟩
theorem lp_style_table_endings : LP n_style_table_endings = some style_table_endings := by kernel_rfl
theorem lok_style_table_endings : LfOk 56 style_table_endings := ⟨F56,by kernel_rfl,by kernel_rfl,by kernel_rfl,by kernel_rfl⟩
theorem lok_style_table_reach : LfOk 57 style_table_reach := ⟨F57,by kernel_rfl,by kernel_rfl,by kernel_rfl,by kernel_rfl⟩
theorem lp_style_set_has : LP n_style_set_has = some style_set_has := by kernel_rfl
theorem lok_style_set_has : LfOk 58 style_set_has := ⟨F58,by kernel_rfl,by kernel_rfl,by kernel_rfl,by kernel_rfl⟩
theorem lp_style_table_may : LP n_style_table_may = some style_table_may := by kernel_rfl
theorem lok_style_table_may : LfOk 59 style_table_may := ⟨F59,by kernel_rfl,by kernel_rfl,by kernel_rfl,by kernel_rfl⟩
theorem lp_ebb_between : LP n_ebb_between = some ebb_between := by kernel_rfl
theorem lok_ebb_between : LfOk 60 ebb_between := ⟨F60,by kernel_rfl,by kernel_rfl,by kernel_rfl,by kernel_rfl⟩
theorem lp_slices_ContainsFunc_int_int : LP n_slices_ContainsFunc_int_int = some slices_ContainsFunc_int_int := by kernel_rfl
theorem lok_slices_ContainsFunc_int_int : LfOk 61 slices_ContainsFunc_int_int := ⟨F61,by kernel_rfl,by kernel_rfl,by kernel_rfl,by kernel_rfl⟩
theorem lp_ebb_Shore_beside : LP n_ebb_Shore_beside = some ebb_Shore_beside := by kernel_rfl
theorem lok_ebb_Shore_beside : LfOk 62 ebb_Shore_beside := ⟨F62,by kernel_rfl,by kernel_rfl,by kernel_rfl,by kernel_rfl⟩
theorem lok_math_bits_Mul32 : LfOk 67 math_bits_Mul32 := ⟨F67,by kernel_rfl,by kernel_rfl,by kernel_rfl,by kernel_rfl⟩
theorem lok_math_bits_Mul64 : LfOk 68 math_bits_Mul64 := ⟨F68,by kernel_rfl,by kernel_rfl,by kernel_rfl,by kernel_rfl⟩
theorem lp_style_table_places : LP n_style_table_places = some style_table_places := by kernel_rfl
theorem lok_style_table_places : LfOk 74 style_table_places := ⟨F74,by kernel_rfl,by kernel_rfl,by kernel_rfl,by kernel_rfl⟩
theorem lok_style_set_size : LfOk 75 style_set_size := ⟨F75,by kernel_rfl,by kernel_rfl,by kernel_rfl,by kernel_rfl⟩
theorem lp_slices_ContainsFunc_style_set_style_set : LP n_slices_ContainsFunc_style_set_style_set = some slices_ContainsFunc_style_set_style_set := by kernel_rfl
theorem lok_slices_ContainsFunc_style_set_style_set : LfOk 76 slices_ContainsFunc_style_set_style_set := ⟨F76,by kernel_rfl,by kernel_rfl,by kernel_rfl,by kernel_rfl⟩
theorem lp_style_table_may_1 : LP n_style_table_may_1 = some style_table_may_1 := by kernel_rfl
theorem lok_style_table_may_1 : LfOk 77 style_table_may_1 := ⟨F77,by kernel_rfl,by kernel_rfl,by kernel_rfl,by kernel_rfl⟩
theorem lp_ebb_Shore_beside_1 : LP n_ebb_Shore_beside_1 = some ebb_Shore_beside_1 := by kernel_rfl
theorem lok_ebb_Shore_beside_1 : LfOk 78 ebb_Shore_beside_1 := ⟨F78,by kernel_rfl,by kernel_rfl,by kernel_rfl,by kernel_rfl⟩
theorem lp_slices_Repeat_int_int : LP n_slices_Repeat_int_int = some slices_Repeat_int_int := by kernel_rfl
theorem lok_slices_Repeat_int_int : LfOk 86 slices_Repeat_int_int := ⟨F86,by kernel_rfl,by kernel_rfl,by kernel_rfl,by kernel_rfl⟩
theorem lok_math_bits_OnesCount8 : LfOk 87 math_bits_OnesCount8 := ⟨F87,by kernel_rfl,by kernel_rfl,by kernel_rfl,by kernel_rfl⟩
theorem lp_slices_IndexFunc_style_set_style_set : LP n_slices_IndexFunc_style_set_style_set = some slices_IndexFunc_style_set_style_set := by kernel_rfl
theorem lok_slices_IndexFunc_style_set_style_set : LfOk 88 slices_IndexFunc_style_set_style_set := ⟨F88,by kernel_rfl,by kernel_rfl,by kernel_rfl,by kernel_rfl⟩
theorem lp_ebb_Shore_sills_w0 : LP n_ebb_Shore_sills_w0 = some ebb_Shore_sills_w0 := by kernel_rfl
theorem lok_ebb_Shore_sills_w0 : LfOk 103400 ebb_Shore_sills_w0 := ⟨F103400,by kernel_rfl,by kernel_rfl,by kernel_rfl,by kernel_rfl⟩
theorem lp_ebb_Shore_sills_r0 : LP n_ebb_Shore_sills_r0 = some ebb_Shore_sills_r0 := by kernel_rfl
theorem lok_ebb_Shore_sills_r0 : LfOk 103401 ebb_Shore_sills_r0 := ⟨F103401,by kernel_rfl,by kernel_rfl,by kernel_rfl,by kernel_rfl⟩
theorem lp_ebb_Shore_sills_h0 : LP n_ebb_Shore_sills_h0 = some ebb_Shore_sills_h0 := by kernel_rfl
theorem lok_ebb_Shore_sills_h0 : LfOk 1103400 ebb_Shore_sills_h0 := ⟨F1103400,by kernel_rfl,by kernel_rfl,by kernel_rfl,by kernel_rfl⟩
theorem top_TopNested.L0_eq (e : LEnv) (m : LMem) : exF LP top_TopNested.L0 e m = match exF LP top_TopNested.B0 (LEnv.keep e [7,8,9,10,12,13,84,85,86]) m with | some (.normal,e',m') => exF LP top_TopNested.L0 (LEnv.keep e' [7,8,9,10,12,13,84,85,86]) m' | r => r := exF_loop _ _ _ _ _
theorem top_TopNested.L1_eq (e : LEnv) (m : LMem) : exF LP top_TopNested.L1 e m = match exF LP top_TopNested.B1 (LEnv.keep e [7,8,9,10,11,12]) m with | some (.normal,e',m') => exF LP top_TopNested.L1 (LEnv.keep e' [7,8,9,10,11,12]) m' | r => r := exF_loop _ _ _ _ _
theorem top_TopNested.L2_eq (e : LEnv) (m : LMem) : exF LP top_TopNested.L2 e m = match exF LP top_TopNested.B2 (LEnv.keep e [9,10,17,18,115,116,117]) m with | some (.normal,e',m') => exF LP top_TopNested.L2 (LEnv.keep e' [9,10,17,18,115,116,117]) m' | r => r := exF_loop _ _ _ _ _
theorem top_TopNested.L3_eq (e : LEnv) (m : LMem) : exF LP top_TopNested.L3 e m = match exF LP top_TopNested.B3 (LEnv.keep e [9,10,17,18]) m with | some (.normal,e',m') => exF LP top_TopNested.L3 (LEnv.keep e' [9,10,17,18]) m' | r => r := exF_loop _ _ _ _ _
theorem top_shored.L0_eq (e : LEnv) (m : LMem) : exF LP top_shored.L0 e m = match exF LP top_shored.B0 (LEnv.keep e [6,7,29,30,31]) m with | some (.normal,e',m') => exF LP top_shored.L0 (LEnv.keep e' [6,7,29,30,31]) m' | r => r := exF_loop _ _ _ _ _
theorem ebb_Bare.L0_eq (e : LEnv) (m : LMem) : exF LP ebb_Bare.L0 e m = match exF LP ebb_Bare.B0 (LEnv.keep e [6,7,8,18,19]) m with | some (.normal,e',m') => exF LP ebb_Bare.L0 (LEnv.keep e' [6,7,8,18,19]) m' | r => r := exF_loop _ _ _ _ _
theorem top_risingBelow.L0_eq (e : LEnv) (m : LMem) : exF LP top_risingBelow.L0 e m = match exF LP top_risingBelow.B0 (LEnv.keep e [0,1,7,8,9]) m with | some (.normal,e',m') => exF LP top_risingBelow.L0 (LEnv.keep e' [0,1,7,8,9]) m' | r => r := exF_loop _ _ _ _ _
theorem style_Why.L0_eq (e : LEnv) (m : LMem) : exF LP style_Why.L0 e m = match exF LP style_Why.B0 (LEnv.keep e [6,7,8,9,24,25]) m with | some (.normal,e',m') => exF LP style_Why.L0 (LEnv.keep e' [6,7,8,9,24,25]) m' | r => r := exF_loop _ _ _ _ _
theorem style_Why.L1_eq (e : LEnv) (m : LMem) : exF LP style_Why.L1 e m = match exF LP style_Why.B1 (LEnv.keep e [6,7,8,24,25]) m with | some (.normal,e',m') => exF LP style_Why.L1 (LEnv.keep e' [6,7,8,24,25]) m' | r => r := exF_loop _ _ _ _ _
theorem style_Why.L2_eq (e : LEnv) (m : LMem) : exF LP style_Why.L2 e m = match exF LP style_Why.B2 (LEnv.keep e [6,24,25]) m with | some (.normal,e',m') => exF LP style_Why.L2 (LEnv.keep e' [6,24,25]) m' | r => r := exF_loop _ _ _ _ _
theorem top_same.L0_eq (e : LEnv) (m : LMem) : exF LP top_same.L0 e m = match exF LP top_same.B0 (LEnv.keep e [0,1,12,13]) m with | some (.normal,e',m') => exF LP top_same.L0 (LEnv.keep e' [0,1,12,13]) m' | r => r := exF_loop _ _ _ _ _
theorem ebb_depths.L0_eq (e : LEnv) (m : LMem) : exF LP ebb_depths.L0 e m = match exF LP ebb_depths.B0 (LEnv.keep e [1,4,7,22,23,24]) m with | some (.normal,e',m') => exF LP ebb_depths.L0 (LEnv.keep e' [1,4,7,22,23,24]) m' | r => r := exF_loop _ _ _ _ _
theorem style_Gaps.L0_eq (e : LEnv) (m : LMem) : exF LP style_Gaps.L0 e m = match exF LP style_Gaps.B0 (LEnv.keep e [7,8,17,18,19]) m with | some (.normal,e',m') => exF LP style_Gaps.L0 (LEnv.keep e' [7,8,17,18,19]) m' | r => r := exF_loop _ _ _ _ _
theorem style_opened.L0_eq (e : LEnv) (m : LMem) : exF LP style_opened.L0 e m = match exF LP style_opened.B0 (LEnv.keep e [1,2,4,7,8,31,32,33,41,42,43]) m with | some (.normal,e',m') => exF LP style_opened.L0 (LEnv.keep e' [1,2,4,7,8,31,32,33,41,42,43]) m' | r => r := exF_loop _ _ _ _ _
theorem style_opened.L1_eq (e : LEnv) (m : LMem) : exF LP style_opened.L1 e m = match exF LP style_opened.B1 (LEnv.keep e [1,2,4,31,32,33]) m with | some (.normal,e',m') => exF LP style_opened.L1 (LEnv.keep e' [1,2,4,31,32,33]) m' | r => r := exF_loop _ _ _ _ _
theorem style_First.L0_eq (e : LEnv) (m : LMem) : exF LP style_First.L0 e m = match exF LP style_First.B0 (LEnv.keep e [4,6,7,8,28,29,32,33]) m with | some (.normal,e',m') => exF LP style_First.L0 (LEnv.keep e' [4,6,7,8,28,29,32,33]) m' | r => r := exF_loop _ _ _ _ _
theorem style_First.L1_eq (e : LEnv) (m : LMem) : exF LP style_First.L1 e m = match exF LP style_First.B1 (LEnv.keep e [4,6,7,8,28,29]) m with | some (.normal,e',m') => exF LP style_First.L1 (LEnv.keep e' [4,6,7,8,28,29]) m' | r => r := exF_loop _ _ _ _ _
theorem ebb_Shore_sills.L0_eq (e : LEnv) (m : LMem) : exF LP ebb_Shore_sills.L0 e m = match exF LP ebb_Shore_sills.B0 (LEnv.keep e [1,2,3,4,9,14,15,70,71,72,73,74,75,76,77,78,79,80,81,82,83,84,85,86,87,88]) m with | some (.normal,e',m') => exF LP ebb_Shore_sills.L0 (LEnv.keep e' [1,2,3,4,9,14,15,70,71,72,73,74,75,76,77,78,79,80,81,82,83,84,85,86,87,88]) (trim m.length (envVals (LEnv.keep e' [1,2,3,4,9,14,15,70,71,72,73,74,75,76,77,78,79,80,81,82,83,84,85,86,87,88])) m') | r => r := exF_loop _ _ _ _ _
theorem ebb_Shore_sills.L1_eq (e : LEnv) (m : LMem) : exF LP ebb_Shore_sills.L1 e m = match exF LP ebb_Shore_sills.B1 (LEnv.keep e [1,2,3,4,6,9,36,37,39,40,41,70,71,72,73,74,75,76,77,78,79,80,81,82,83,84,85,86,87,88]) m with | some (.normal,e',m') => exF LP ebb_Shore_sills.L1 (LEnv.keep e' [1,2,3,4,6,9,36,37,39,40,41,70,71,72,73,74,75,76,77,78,79,80,81,82,83,84,85,86,87,88]) (trim m.length (envVals (LEnv.keep e' [1,2,3,4,6,9,36,37,39,40,41,70,71,72,73,74,75,76,77,78,79,80,81,82,83,84,85,86,87,88])) m') | r => r := exF_loop _ _ _ _ _
theorem ebb_Shore_sills.L2_eq (e : LEnv) (m : LMem) : exF LP ebb_Shore_sills.L2 e m = match exF LP ebb_Shore_sills.B2 (LEnv.keep e [1,2,3,4,9,36,37,70,71,72,73,74,75,76,77,78,79,80,81,82,83,84,85,86,87,88]) m with | some (.normal,e',m') => exF LP ebb_Shore_sills.L2 (LEnv.keep e' [1,2,3,4,9,36,37,70,71,72,73,74,75,76,77,78,79,80,81,82,83,84,85,86,87,88]) (trim m.length (envVals (LEnv.keep e' [1,2,3,4,9,36,37,70,71,72,73,74,75,76,77,78,79,80,81,82,83,84,85,86,87,88])) m') | r => r := exF_loop _ _ _ _ _
theorem slices_IndexFunc_int_int.L0_eq (e : LEnv) (m : LMem) : exF LP slices_IndexFunc_int_int.L0 e m = match exF LP slices_IndexFunc_int_int.B0 (LEnv.keep e [0,1,7,8]) m with | some (.normal,e',m') => exF LP slices_IndexFunc_int_int.L0 (LEnv.keep e' [0,1,7,8]) m' | r => r := exF_loop _ _ _ _ _
theorem style_shown.L0_eq (e : LEnv) (m : LMem) : exF LP style_shown.L0 e m = match exF LP style_shown.B0 (LEnv.keep e [8,9,11,12,33,34,35,39,40,41]) m with | some (.normal,e',m') => exF LP style_shown.L0 (LEnv.keep e' [8,9,11,12,33,34,35,39,40,41]) m' | r => r := exF_loop _ _ _ _ _
theorem style_shown.L1_eq (e : LEnv) (m : LMem) : exF LP style_shown.L1 e m = match exF LP style_shown.B1 (LEnv.keep e [8,9,33,34,35]) m with | some (.normal,e',m') => exF LP style_shown.L1 (LEnv.keep e' [8,9,33,34,35]) m' | r => r := exF_loop _ _ _ _ _
theorem style_table_endings.L0_eq (e : LEnv) (m : LMem) : exF LP style_table_endings.L0 e m = match exF LP style_table_endings.B0 (LEnv.keep e [1,3,4,23,24]) m with | some (.normal,e',m') => exF LP style_table_endings.L0 (LEnv.keep e' [1,3,4,23,24]) m' | r => r := exF_loop _ _ _ _ _
theorem style_table_endings.L1_eq (e : LEnv) (m : LMem) : exF LP style_table_endings.L1 e m = match exF LP style_table_endings.B1 (LEnv.keep e [1,3,4]) m with | some (.normal,e',m') => exF LP style_table_endings.L1 (LEnv.keep e' [1,3,4]) m' | r => r := exF_loop _ _ _ _ _
theorem style_table_reach.L0_eq (e : LEnv) (m : LMem) : exF LP style_table_reach.L0 e m = match exF LP style_table_reach.B0 (LEnv.keep e [2,3,7,8,15,16,17]) m with | some (.normal,e',m') => exF LP style_table_reach.L0 (LEnv.keep e' [2,3,7,8,15,16,17]) m' | r => r := exF_loop _ _ _ _ _
theorem style_table_reach.L1_eq (e : LEnv) (m : LMem) : exF LP style_table_reach.L1 e m = match exF LP style_table_reach.B1 (LEnv.keep e [2,3,7,8]) m with | some (.normal,e',m') => exF LP style_table_reach.L1 (LEnv.keep e' [2,3,7,8]) m' | r => r := exF_loop _ _ _ _ _
theorem style_table_places.L0_eq (e : LEnv) (m : LMem) : exF LP style_table_places.L0 e m = match exF LP style_table_places.B0 (LEnv.keep e [2,6,18,19,20]) m with | some (.normal,e',m') => exF LP style_table_places.L0 (LEnv.keep e' [2,6,18,19,20]) m' | r => r := exF_loop _ _ _ _ _
theorem ebb_Shore_beside_1.L0_eq (e : LEnv) (m : LMem) : exF LP ebb_Shore_beside_1.L0 e m = match exF LP ebb_Shore_beside_1.B0 (LEnv.keep e [0,1,2,18,19]) m with | some (.normal,e',m') => exF LP ebb_Shore_beside_1.L0 (LEnv.keep e' [0,1,2,18,19]) m' | r => r := exF_loop _ _ _ _ _
theorem slices_Repeat_int_int.L0_eq (e : LEnv) (m : LMem) : exF LP slices_Repeat_int_int.L0 e m = match exF LP slices_Repeat_int_int.B0 (LEnv.keep e [7,8]) m with | some (.normal,e',m') => exF LP slices_Repeat_int_int.L0 (LEnv.keep e' [7,8]) m' | r => r := exF_loop _ _ _ _ _
theorem slices_IndexFunc_style_set_style_set.L0_eq (e : LEnv) (m : LMem) : exF LP slices_IndexFunc_style_set_style_set.L0 e m = match exF LP slices_IndexFunc_style_set_style_set.B0 (LEnv.keep e [0,1,7,8]) m with | some (.normal,e',m') => exF LP slices_IndexFunc_style_set_style_set.L0 (LEnv.keep e' [0,1,7,8]) m' | r => r := exF_loop _ _ _ _ _
theorem progL : ProgL LP C := by
  intro f lf h
  unfold LP at h
  split at h
  · cases h; exact lok_top_TopNested
  · cases h; exact lok_top_shored
  · cases h; exact lok_ebb_Bare
  · cases h; exact lok_top_risingBelow
  · cases h; exact lok_style_Whole
  · cases h; exact lok_style_Count
  · cases h; exact lok_style_Why
  · cases h; exact lok_top_stylesWork
  · cases h; exact lok_ebb_Sills
  · cases h; exact lok_top_same
  · cases h; exact lok_ebb_depths
  · cases h; exact lok_style_Gaps
  · cases h; exact lok_style_opened
  · cases h; exact lok_style_table_count
  · cases h; exact lok_style_table_apart
  · cases h; exact lok_top_list
  · cases h; exact lok_style_First
  · cases h; exact lok_ebb_Check
  · cases h; exact lok_ebb_Shore_sills
  · cases h; exact lok_slices_Clone_int_int
  · cases h; exact lok_ebb_Shore_river
  · cases h; exact lok_math_bits_Mul
  · cases h; exact lok_slices_IndexFunc_int_int
  · cases h; exact lok_ebb_wrong
  · cases h; exact lok_style_shown
  · cases h; exact lok_style_set_gaps
  · cases h; exact lok_style_set_with
  · cases h; exact lok_style_table_endings
  · cases h; exact lok_style_table_reach
  · cases h; exact lok_style_set_has
  · cases h; exact lok_style_table_may
  · cases h; exact lok_ebb_between
  · cases h; exact lok_slices_ContainsFunc_int_int
  · cases h; exact lok_ebb_Shore_beside
  · cases h; exact lok_math_bits_Mul32
  · cases h; exact lok_math_bits_Mul64
  · cases h; exact lok_style_table_places
  · cases h; exact lok_style_set_size
  · cases h; exact lok_slices_ContainsFunc_style_set_style_set
  · cases h; exact lok_style_table_may_1
  · cases h; exact lok_ebb_Shore_beside_1
  · cases h; exact lok_slices_Repeat_int_int
  · cases h; exact lok_math_bits_OnesCount8
  · cases h; exact lok_slices_IndexFunc_style_set_style_set
  · cases h; exact lok_ebb_Shore_sills_w0
  · cases h; exact lok_ebb_Shore_sills_r0
  · cases h; exact lok_ebb_Shore_sills_h0
  · cases h
end Go.Am.Top
