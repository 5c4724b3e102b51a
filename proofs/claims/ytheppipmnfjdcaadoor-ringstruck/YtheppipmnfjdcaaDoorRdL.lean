/- The program's functions as the list machine has them: they are those of the abstract machine. -/
import Derived.Test.YtheppipmnfjdcaaDoorRdL0
import Derived.Test.YtheppipmnfjdcaaDoorRdF
set_option maxRecDepth 100000
namespace Go.Am.Ring
open Go.Am
def LP : LProg := fun f => match f with
  | 6 => some law04_RingStruck
  | 7 => some law04_Layers_made
  | 9 => some slices_Clone_int_int
  | 11 => some ring_Against
  | 12 => some ring_Fewest
  | 13 => some law04_same
  | 14 => some law04_numbers
  | 15 => some law04_against
  | 16 => some law04_works
  | 17 => some ring_Apart
  | 18 => some ring_Strike
  | 19 => some slices_Compare_int_int
  | 20 => some slices_Contains_int_int
  | 23 => some law04_all
  | 25 => some math_bits_OnesCount
  | 26 => some ring_Order
  | 27 => some ring_Count
  | 28 => some ring_Sure
  | 29 => some law04_pairs
  | 30 => some law04_RingStruck_1
  | 31 => some law04_ringless
  | 32 => some ring_Turn
  | 33 => some ring_Check
  | 34 => some slices_Repeat_int_int
  | 35 => some ring_between
  | 36 => some ring_filled
  | 37 => some ring_anyForm
  | 38 => some math_bits_TrailingZeros
  | 39 => some slices_Index_int_int
  | 40 => some law04_F
  | 41 => some law04_list
  | 42 => some law04_G
  | 43 => some ring_Ring
  | 44 => some law04_finds
  | 45 => some law04_lists
  | 46 => some ring_Proves
  | 47 => some ring_rings
  | 48 => some ring_Apart_1
  | 49 => some ring_Apart_2
  | 50 => some ring_set
  | 51 => some slices_Clone_2_int_2_int
  | 52 => some slices_Delete_2_int_2_int
  | 53 => some cmp_Compare_int
  | 54 => some slices_Min_int_int
  | 55 => some law04_all_1
  | 56 => some slices_Clip_int_int
  | 57 => some math_bits_OnesCount32
  | 58 => some math_bits_OnesCount64
  | 59 => some ring_table_cost
  | 60 => some ring_Sure_1
  | 61 => some math_bits_Mul
  | 62 => some math_bits_TrailingZeros32
  | 63 => some math_bits_TrailingZeros64
  | 64 => some ring_Ring_1
  | 65 => some ring_rings_1
  | 66 => some cmp_isNaN_int
  | 67 => some math_bits_Mul32
  | 68 => some math_bits_Mul64
  | _ => none
def LfOk (i : Nat) (lf : LFunc) : Prop := ∃ af,C i = some af ∧ af.results = lf.results ∧ af.body = lf.body.erase ∧ lf.body.good = true
theorem lp_law04_RingStruck : LP n_law04_RingStruck = some law04_RingStruck := by kernel_rfl
theorem lok_law04_RingStruck : LfOk 6 law04_RingStruck := ⟨F6,by kernel_rfl,by kernel_rfl,by kernel_rfl,by kernel_rfl⟩
theorem lp_law04_Layers_made : LP n_law04_Layers_made = some law04_Layers_made := by kernel_rfl
theorem lok_law04_Layers_made : LfOk 7 law04_Layers_made := ⟨F7,by kernel_rfl,by kernel_rfl,by kernel_rfl,by kernel_rfl⟩
theorem lok_slices_Clone_int_int : LfOk 9 slices_Clone_int_int := ⟨F9,by kernel_rfl,by kernel_rfl,by kernel_rfl,by kernel_rfl⟩
theorem lp_ring_Against : LP n_ring_Against = some ring_Against := by kernel_rfl
theorem lok_ring_Against : LfOk 11 ring_Against := ⟨F11,by kernel_rfl,by kernel_rfl,by kernel_rfl,by kernel_rfl⟩
theorem lp_ring_Fewest : LP n_ring_Fewest = some ring_Fewest := by kernel_rfl
theorem lok_ring_Fewest : LfOk 12 ring_Fewest := ⟨F12,by kernel_rfl,by kernel_rfl,by kernel_rfl,by kernel_rfl⟩
theorem lp_law04_same : LP n_law04_same = some law04_same := by kernel_rfl
theorem lok_law04_same : LfOk 13 law04_same := ⟨F13,by kernel_rfl,by kernel_rfl,by kernel_rfl,by kernel_rfl⟩
theorem lp_law04_numbers : LP n_law04_numbers = some law04_numbers := by kernel_rfl
theorem lok_law04_numbers : LfOk 14 law04_numbers := ⟨F14,by kernel_rfl,by kernel_rfl,by kernel_rfl,by kernel_rfl⟩
theorem lp_law04_against : LP n_law04_against = some law04_against := by kernel_rfl
theorem lok_law04_against : LfOk 15 law04_against := ⟨F15,by kernel_rfl,by kernel_rfl,by kernel_rfl,by kernel_rfl⟩
theorem lp_law04_works : LP n_law04_works = some law04_works := by kernel_rfl
theorem lok_law04_works : LfOk 16 law04_works := ⟨F16,by kernel_rfl,by kernel_rfl,by kernel_rfl,by kernel_rfl⟩
theorem lp_ring_Apart : LP n_ring_Apart = some ring_Apart := by kernel_rfl
theorem lok_ring_Apart : LfOk 17 ring_Apart := ⟨F17,by kernel_rfl,by kernel_rfl,by kernel_rfl,by kernel_rfl⟩
theorem lp_ring_Strike : LP n_ring_Strike = some ring_Strike := by kernel_rfl
theorem lok_ring_Strike : LfOk 18 ring_Strike := ⟨F18,by kernel_rfl,by kernel_rfl,by kernel_rfl,by kernel_rfl⟩
theorem lp_slices_Compare_int_int : LP n_slices_Compare_int_int = some slices_Compare_int_int := by kernel_rfl
theorem lok_slices_Compare_int_int : LfOk 19 slices_Compare_int_int := ⟨F19,by kernel_rfl,by kernel_rfl,by kernel_rfl,by kernel_rfl⟩
theorem lp_slices_Contains_int_int : LP n_slices_Contains_int_int = some slices_Contains_int_int := by kernel_rfl
theorem lok_slices_Contains_int_int : LfOk 20 slices_Contains_int_int := ⟨F20,by kernel_rfl,by kernel_rfl,by kernel_rfl,by kernel_rfl⟩
theorem lp_law04_all : LP n_law04_all = some law04_all := by kernel_rfl
theorem lok_law04_all : LfOk 23 law04_all := ⟨F23,by kernel_rfl,by kernel_rfl,by kernel_rfl,by kernel_rfl⟩
theorem lp_math_bits_OnesCount : LP n_math_bits_OnesCount = some math_bits_OnesCount := by kernel_rfl
theorem lok_math_bits_OnesCount : LfOk 25 math_bits_OnesCount := ⟨F25,by kernel_rfl,by kernel_rfl,by kernel_rfl,by kernel_rfl⟩
theorem lp_ring_Order : LP n_ring_Order = some ring_Order := by kernel_rfl
theorem lok_ring_Order : LfOk 26 ring_Order := ⟨F26,by kernel_rfl,by kernel_rfl,by kernel_rfl,by kernel_rfl⟩
theorem lp_ring_Count : LP n_ring_Count = some ring_Count := by kernel_rfl
theorem lok_ring_Count : LfOk 27 ring_Count := ⟨F27,by kernel_rfl,by kernel_rfl,by kernel_rfl,by kernel_rfl⟩
theorem lp_ring_Sure : LP n_ring_Sure = some ring_Sure := by kernel_rfl
theorem lok_ring_Sure : LfOk 28 ring_Sure := ⟨F28,by kernel_rfl,by kernel_rfl,by kernel_rfl,by kernel_rfl⟩
theorem lp_law04_pairs : LP n_law04_pairs = some law04_pairs := by kernel_rfl
theorem lok_law04_pairs : LfOk 29 law04_pairs := ⟨F29,by kernel_rfl,by kernel_rfl,by kernel_rfl,by kernel_rfl⟩
theorem lp_law04_RingStruck_1 : LP n_law04_RingStruck_1 = some law04_RingStruck_1 := by kernel_rfl
theorem lok_law04_RingStruck_1 : LfOk 30 law04_RingStruck_1 := ⟨F30,by kernel_rfl,by kernel_rfl,by kernel_rfl,by kernel_rfl⟩
theorem lp_law04_ringless : LP n_law04_ringless = some law04_ringless := by kernel_rfl
theorem lok_law04_ringless : LfOk 31 law04_ringless := ⟨F31,by kernel_rfl,by kernel_rfl,by kernel_rfl,by kernel_rfl⟩
theorem lp_ring_Turn : LP n_ring_Turn = some ring_Turn := by kernel_rfl
theorem lok_ring_Turn : LfOk 32 ring_Turn := ⟨F32,by kernel_rfl,by kernel_rfl,by kernel_rfl,by kernel_rfl⟩
theorem lp_ring_Check : LP n_ring_Check = some ring_Check := by kernel_rfl
theorem lok_ring_Check : LfOk 33 ring_Check := ⟨F33,by kernel_rfl,by kernel_rfl,by kernel_rfl,by kernel_rfl⟩
theorem lp_slices_Repeat_int_int : LP n_slices_Repeat_int_int = some slices_Repeat_int_int := by kernel_rfl
theorem lok_slices_Repeat_int_int : LfOk 34 slices_Repeat_int_int := ⟨F34,by kernel_rfl,by kernel_rfl,by kernel_rfl,by kernel_rfl⟩
theorem lp_ring_between : LP n_ring_between = some ring_between := by kernel_rfl
theorem lok_ring_between : LfOk 35 ring_between := ⟨F35,by kernel_rfl,by kernel_rfl,by kernel_rfl,by kernel_rfl⟩
theorem lp_ring_filled : LP n_ring_filled = some ring_filled := by kernel_rfl
theorem lok_ring_filled : LfOk 36 ring_filled := ⟨F36,by kernel_rfl,by kernel_rfl,by kernel_rfl,by kernel_rfl⟩
theorem lp_ring_anyForm : LP n_ring_anyForm = some ring_anyForm := by kernel_rfl
theorem lok_ring_anyForm : LfOk 37 ring_anyForm := ⟨F37,by kernel_rfl,by kernel_rfl,by kernel_rfl,by kernel_rfl⟩
theorem lp_math_bits_TrailingZeros : LP n_math_bits_TrailingZeros = some math_bits_TrailingZeros := by kernel_rfl
theorem lok_math_bits_TrailingZeros : LfOk 38 math_bits_TrailingZeros := ⟨F38,by kernel_rfl,by kernel_rfl,by kernel_rfl,by kernel_rfl⟩
theorem lp_slices_Index_int_int : LP n_slices_Index_int_int = some slices_Index_int_int := by kernel_rfl
theorem lok_slices_Index_int_int : LfOk 39 slices_Index_int_int := ⟨F39,by kernel_rfl,by kernel_rfl,by kernel_rfl,by kernel_rfl⟩
theorem lp_law04_F : LP n_law04_F = some law04_F := by kernel_rfl
theorem lok_law04_F : LfOk 40 law04_F := ⟨F40,by kernel_rfl,by kernel_rfl,by kernel_rfl,by kernel_rfl⟩
theorem lp_law04_list : LP n_law04_list = some law04_list := by kernel_rfl
theorem lok_law04_list : LfOk 41 law04_list := ⟨F41,by kernel_rfl,by kernel_rfl,by kernel_rfl,by kernel_rfl⟩
theorem lp_law04_G : LP n_law04_G = some law04_G := by kernel_rfl
theorem lok_law04_G : LfOk 42 law04_G := ⟨F42,by kernel_rfl,by kernel_rfl,by kernel_rfl,by kernel_rfl⟩
theorem lp_ring_Ring : LP n_ring_Ring = some ring_Ring := by kernel_rfl
theorem lok_ring_Ring : LfOk 43 ring_Ring := ⟨F43,by kernel_rfl,by kernel_rfl,by kernel_rfl,by kernel_rfl⟩
theorem lp_law04_finds : LP n_law04_finds = some law04_finds := by kernel_rfl
theorem lok_law04_finds : LfOk 44 law04_finds := ⟨F44,by kernel_rfl,by kernel_rfl,by kernel_rfl,by kernel_rfl⟩
theorem lp_law04_lists : LP n_law04_lists = some law04_lists := by kernel_rfl
theorem lok_law04_lists : LfOk 45 law04_lists := ⟨F45,by kernel_rfl,by kernel_rfl,by kernel_rfl,by kernel_rfl⟩
theorem lp_ring_Proves : LP n_ring_Proves = some ring_Proves := by kernel_rfl
theorem lok_ring_Proves : LfOk 46 ring_Proves := ⟨F46,by kernel_rfl,by kernel_rfl,by kernel_rfl,by kernel_rfl⟩
theorem lok_ring_rings : LfOk 47 ring_rings := ⟨F47,by kernel_rfl,by kernel_rfl,by kernel_rfl,by kernel_rfl⟩
theorem lok_ring_Apart_1 : LfOk 48 ring_Apart_1 := ⟨F48,by kernel_rfl,by kernel_rfl,by kernel_rfl,by kernel_rfl⟩
theorem lok_ring_Apart_2 : LfOk 49 ring_Apart_2 := ⟨F49,by kernel_rfl,by kernel_rfl,by kernel_rfl,by kernel_rfl⟩
theorem lok_ring_set : LfOk 50 ring_set := ⟨F50,by kernel_rfl,by kernel_rfl,by kernel_rfl,by kernel_rfl⟩
theorem lp_slices_Clone_2_int_2_int : LP n_slices_Clone_2_int_2_int = some slices_Clone_2_int_2_int := by kernel_rfl
theorem lok_slices_Clone_2_int_2_int : LfOk 51 slices_Clone_2_int_2_int := ⟨F51,by kernel_rfl,by kernel_rfl,by kernel_rfl,by kernel_rfl⟩
theorem lp_slices_Delete_2_int_2_int : LP n_slices_Delete_2_int_2_int = some slices_Delete_2_int_2_int := by kernel_rfl
theorem lok_slices_Delete_2_int_2_int : LfOk 52 slices_Delete_2_int_2_int := ⟨F52,by kernel_rfl,by kernel_rfl,by kernel_rfl,by kernel_rfl⟩
theorem lp_cmp_Compare_int : LP n_cmp_Compare_int = some cmp_Compare_int := by kernel_rfl
theorem lok_cmp_Compare_int : LfOk 53 cmp_Compare_int := ⟨F53,by kernel_rfl,by kernel_rfl,by kernel_rfl,by kernel_rfl⟩
theorem lok_slices_Min_int_int : LfOk 54 slices_Min_int_int := ⟨F54,by kernel_rfl,by kernel_rfl,by kernel_rfl,by kernel_rfl⟩
theorem lp_law04_all_1 : LP n_law04_all_1 = some law04_all_1 := by kernel_rfl
theorem lok_law04_all_1 : LfOk 55 law04_all_1 := ⟨F55,by kernel_rfl,by kernel_rfl,by kernel_rfl,by kernel_rfl⟩
theorem lp_slices_Clip_int_int : LP n_slices_Clip_int_int = some slices_Clip_int_int := by kernel_rfl
theorem lok_slices_Clip_int_int : LfOk 56 slices_Clip_int_int := ⟨F56,by kernel_rfl,by kernel_rfl,by kernel_rfl,by kernel_rfl⟩
theorem lok_math_bits_OnesCount32 : LfOk 57 math_bits_OnesCount32 := ⟨F57,by kernel_rfl,by kernel_rfl,by kernel_rfl,by kernel_rfl⟩
theorem lp_math_bits_OnesCount64 : LP n_math_bits_OnesCount64 = some math_bits_OnesCount64 := by kernel_rfl
theorem lok_math_bits_OnesCount64 : LfOk 58 math_bits_OnesCount64 := ⟨F58,by kernel_rfl,by kernel_rfl,by kernel_rfl,by kernel_rfl⟩
theorem lp_ring_table_cost : LP n_ring_table_cost = some ring_table_cost := by kernel_rfl
theorem lok_ring_table_cost : LfOk 59 ring_table_cost := ⟨F59,by kernel_rfl,by kernel_rfl,by kernel_rfl,by kernel_rfl⟩
theorem lp_ring_Sure_1 : LP n_ring_Sure_1 = some ring_Sure_1 := by kernel_rfl
theorem lok_ring_Sure_1 : LfOk 60 ring_Sure_1 := ⟨F60,by kernel_rfl,by kernel_rfl,by kernel_rfl,by kernel_rfl⟩
theorem lok_math_bits_Mul : LfOk 61 math_bits_Mul := ⟨F61,by kernel_rfl,by kernel_rfl,by kernel_rfl,by kernel_rfl⟩
theorem lok_math_bits_TrailingZeros32 : LfOk 62 math_bits_TrailingZeros32 := ⟨F62,by kernel_rfl,by kernel_rfl,by kernel_rfl,by kernel_rfl⟩
theorem lp_math_bits_TrailingZeros64 : LP n_math_bits_TrailingZeros64 = some math_bits_TrailingZeros64 := by kernel_rfl
theorem lok_math_bits_TrailingZeros64 : LfOk 63 math_bits_TrailingZeros64 := ⟨F63,by kernel_rfl,by kernel_rfl,by kernel_rfl,by kernel_rfl⟩
theorem lok_ring_Ring_1 : LfOk 64 ring_Ring_1 := ⟨F64,by kernel_rfl,by kernel_rfl,by kernel_rfl,by kernel_rfl⟩
theorem lok_ring_rings_1 : LfOk 65 ring_rings_1 := ⟨F65,by kernel_rfl,by kernel_rfl,by kernel_rfl,by kernel_rfl⟩
theorem lp_cmp_isNaN_int : LP n_cmp_isNaN_int = some cmp_isNaN_int := by kernel_rfl
theorem lok_cmp_isNaN_int : LfOk 66 cmp_isNaN_int := ⟨F66,by kernel_rfl,by kernel_rfl,by kernel_rfl,by kernel_rfl⟩
theorem lok_math_bits_Mul32 : LfOk 67 math_bits_Mul32 := ⟨F67,by kernel_rfl,by kernel_rfl,by kernel_rfl,by kernel_rfl⟩
theorem lok_math_bits_Mul64 : LfOk 68 math_bits_Mul64 := ⟨F68,by kernel_rfl,by kernel_rfl,by kernel_rfl,by kernel_rfl⟩
theorem law04_RingStruck.L0_eq (e : LEnv) (m : LMem) : exF LP law04_RingStruck.L0 e m = match exF LP law04_RingStruck.B0 (LEnv.keep e [3,4,5,6,7,8,9,10,11,12,37,38,73,74,75]) m with | some (.normal,e',m') => exF LP law04_RingStruck.L0 (LEnv.keep e' [3,4,5,6,7,8,9,10,11,12,37,38,73,74,75]) m' | r => r := exF_loop _ _ _ _ _
theorem law04_RingStruck.L1_eq (e : LEnv) (m : LMem) : exF LP law04_RingStruck.L1 e m = match exF LP law04_RingStruck.B1 (LEnv.keep e [3,4,5,6,7,8,9,10,15,37,38,117,118,119]) m with | some (.normal,e',m') => exF LP law04_RingStruck.L1 (LEnv.keep e' [3,4,5,6,7,8,9,10,15,37,38,117,118,119]) m' | r => r := exF_loop _ _ _ _ _
theorem law04_RingStruck.L2_eq (e : LEnv) (m : LMem) : exF LP law04_RingStruck.L2 e m = match exF LP law04_RingStruck.B2 (LEnv.keep e [3,4,5,6,7,8,9,37,38]) m with | some (.normal,e',m') => exF LP law04_RingStruck.L2 (LEnv.keep e' [3,4,5,6,7,8,9,37,38]) m' | r => r := exF_loop _ _ _ _ _
theorem law04_Layers_made.L0_eq (e : LEnv) (m : LMem) : exF LP law04_Layers_made.L0 e m = match exF LP law04_Layers_made.B0 (LEnv.keep e [8,9,27,28,29]) m with | some (.normal,e',m') => exF LP law04_Layers_made.L0 (LEnv.keep e' [8,9,27,28,29]) m' | r => r := exF_loop _ _ _ _ _
theorem ring_Against.L0_eq (e : LEnv) (m : LMem) : exF LP ring_Against.L0 e m = match exF LP ring_Against.B0 (LEnv.keep e [0,1,9,30,31,32]) m with | some (.normal,e',m') => exF LP ring_Against.L0 (LEnv.keep e' [0,1,9,30,31,32]) (trim m.length (envVals (LEnv.keep e' [0,1,9,30,31,32])) m') | r => r := exF_loop _ _ _ _ _
theorem ring_Against.L1_eq (e : LEnv) (m : LMem) : exF LP ring_Against.L1 e m = match exF LP ring_Against.B1 (LEnv.keep e [9,12,54,55,56]) m with | some (.normal,e',m') => exF LP ring_Against.L1 (LEnv.keep e' [9,12,54,55,56]) (trim m.length (envVals (LEnv.keep e' [9,12,54,55,56])) m') | r => r := exF_loop _ _ _ _ _
theorem law04_same.L0_eq (e : LEnv) (m : LMem) : exF LP law04_same.L0 e m = match exF LP law04_same.B0 (LEnv.keep e [0,1,5]) m with | some (.normal,e',m') => exF LP law04_same.L0 (LEnv.keep e' [0,1,5]) m' | r => r := exF_loop _ _ _ _ _
theorem law04_numbers.L0_eq (e : LEnv) (m : LMem) : exF LP law04_numbers.L0 e m = match exF LP law04_numbers.B0 (LEnv.keep e [0,3]) m with | some (.normal,e',m') => exF LP law04_numbers.L0 (LEnv.keep e' [0,3]) m' | r => r := exF_loop _ _ _ _ _
theorem law04_against.L0_eq (e : LEnv) (m : LMem) : exF LP law04_against.L0 e m = match exF LP law04_against.B0 (LEnv.keep e [1,5,8,9,10]) m with | some (.normal,e',m') => exF LP law04_against.L0 (LEnv.keep e' [1,5,8,9,10]) m' | r => r := exF_loop _ _ _ _ _
theorem ring_Apart.L0_eq (e : LEnv) (m : LMem) : exF LP ring_Apart.L0 e m = match exF LP ring_Apart.B0 (LEnv.keep e [9,10,11,26,27,28]) m with | some (.normal,e',m') => exF LP ring_Apart.L0 (LEnv.keep e' [9,10,11,26,27,28]) m' | r => r := exF_loop _ _ _ _ _
theorem ring_Strike.L0_eq (e : LEnv) (m : LMem) : exF LP ring_Strike.L0 e m = match exF LP ring_Strike.B0 (LEnv.keep e [0,7,8,22,23]) m with | some (.normal,e',m') => exF LP ring_Strike.L0 (LEnv.keep e' [0,7,8,22,23]) m' | r => r := exF_loop _ _ _ _ _
theorem slices_Compare_int_int.L0_eq (e : LEnv) (m : LMem) : exF LP slices_Compare_int_int.L0 e m = match exF LP slices_Compare_int_int.B0 (LEnv.keep e [0,1,9,10,11]) m with | some (.normal,e',m') => exF LP slices_Compare_int_int.L0 (LEnv.keep e' [0,1,9,10,11]) m' | r => r := exF_loop _ _ _ _ _
theorem ring_Order.L0_eq (e : LEnv) (m : LMem) : exF LP ring_Order.L0 e m = match exF LP ring_Order.B0 (LEnv.keep e [0,7,8,9,21,22,24,25]) m with | some (.normal,e',m') => exF LP ring_Order.L0 (LEnv.keep e' [0,7,8,9,21,22,24,25]) m' | r => r := exF_loop _ _ _ _ _
theorem ring_Order.L1_eq (e : LEnv) (m : LMem) : exF LP ring_Order.L1 e m = match exF LP ring_Order.B1 (LEnv.keep e [0,7,8,9,21,22]) m with | some (.normal,e',m') => exF LP ring_Order.L1 (LEnv.keep e' [0,7,8,9,21,22]) m' | r => r := exF_loop _ _ _ _ _
theorem ring_Sure.L0_eq (e : LEnv) (m : LMem) : exF LP ring_Sure.L0 e m = match exF LP ring_Sure.B0 (LEnv.keep e [0,1,7,8,9,26,27,30,31]) m with | some (.normal,e',m') => exF LP ring_Sure.L0 (LEnv.keep e' [0,1,7,8,9,26,27,30,31]) (trim m.length (envVals (LEnv.keep e' [0,1,7,8,9,26,27,30,31])) m') | r => r := exF_loop _ _ _ _ _
theorem ring_Sure.L1_eq (e : LEnv) (m : LMem) : exF LP ring_Sure.L1 e m = match exF LP ring_Sure.B1 (LEnv.keep e [0,1,7,8,26,27]) m with | some (.normal,e',m') => exF LP ring_Sure.L1 (LEnv.keep e' [0,1,7,8,26,27]) (trim m.length (envVals (LEnv.keep e' [0,1,7,8,26,27])) m') | r => r := exF_loop _ _ _ _ _
theorem law04_pairs.L0_eq (e : LEnv) (m : LMem) : exF LP law04_pairs.L0 e m = match exF LP law04_pairs.B0 (LEnv.keep e [0,1,5]) m with | some (.normal,e',m') => exF LP law04_pairs.L0 (LEnv.keep e' [0,1,5]) m' | r => r := exF_loop _ _ _ _ _
theorem law04_ringless.L0_eq (e : LEnv) (m : LMem) : exF LP law04_ringless.L0 e m = match exF LP law04_ringless.B0 (LEnv.keep e [1,2,7,8,16,17,18]) m with | some (.normal,e',m') => exF LP law04_ringless.L0 (LEnv.keep e' [1,2,7,8,16,17,18]) m' | r => r := exF_loop _ _ _ _ _
theorem law04_ringless.L1_eq (e : LEnv) (m : LMem) : exF LP law04_ringless.L1 e m = match exF LP law04_ringless.B1 (LEnv.keep e [1,2,7]) m with | some (.normal,e',m') => exF LP law04_ringless.L1 (LEnv.keep e' [1,2,7]) m' | r => r := exF_loop _ _ _ _ _
theorem ring_Turn.L0_eq (e : LEnv) (m : LMem) : exF LP ring_Turn.L0 e m = match exF LP ring_Turn.B0 (LEnv.keep e [1,9,10,21,22,23]) m with | some (.normal,e',m') => exF LP ring_Turn.L0 (LEnv.keep e' [1,9,10,21,22,23]) m' | r => r := exF_loop _ _ _ _ _
theorem ring_Check.L0_eq (e : LEnv) (m : LMem) : exF LP ring_Check.L0 e m = match exF LP ring_Check.B0 (LEnv.keep e [0,15,16,17]) m with | some (.normal,e',m') => exF LP ring_Check.L0 (LEnv.keep e' [0,15,16,17]) (trim m.length (envVals (LEnv.keep e' [0,15,16,17])) m') | r => r := exF_loop _ _ _ _ _
theorem slices_Repeat_int_int.L0_eq (e : LEnv) (m : LMem) : exF LP slices_Repeat_int_int.L0 e m = match exF LP slices_Repeat_int_int.B0 (LEnv.keep e [7,8]) m with | some (.normal,e',m') => exF LP slices_Repeat_int_int.L0 (LEnv.keep e' [7,8]) m' | r => r := exF_loop _ _ _ _ _
theorem ring_filled.L0_eq (e : LEnv) (m : LMem) : exF LP ring_filled.L0 e m = match exF LP ring_filled.B0 (LEnv.keep e [0,2,7,8,28,29,30]) m with | some (.normal,e',m') => exF LP ring_filled.L0 (LEnv.keep e' [0,2,7,8,28,29,30]) (trim m.length (envVals (LEnv.keep e' [0,2,7,8,28,29,30])) m') | r => r := exF_loop _ _ _ _ _
theorem ring_filled.L1_eq (e : LEnv) (m : LMem) : exF LP ring_filled.L1 e m = match exF LP ring_filled.B1 (LEnv.keep e [0,2,8,11,68,69]) m with | some (.normal,e',m') => exF LP ring_filled.L1 (LEnv.keep e' [0,2,8,11,68,69]) (trim m.length (envVals (LEnv.keep e' [0,2,8,11,68,69])) m') | r => r := exF_loop _ _ _ _ _
theorem ring_filled.L2_eq (e : LEnv) (m : LMem) : exF LP ring_filled.L2 e m = match exF LP ring_filled.B2 (LEnv.keep e [0,2,8,11]) m with | some (.normal,e',m') => exF LP ring_filled.L2 (LEnv.keep e' [0,2,8,11]) (trim m.length (envVals (LEnv.keep e' [0,2,8,11])) m') | r => r := exF_loop _ _ _ _ _
theorem slices_Index_int_int.L0_eq (e : LEnv) (m : LMem) : exF LP slices_Index_int_int.L0 e m = match exF LP slices_Index_int_int.B0 (LEnv.keep e [0,1,7,8]) m with | some (.normal,e',m') => exF LP slices_Index_int_int.L0 (LEnv.keep e' [0,1,7,8]) m' | r => r := exF_loop _ _ _ _ _
theorem law04_finds.L0_eq (e : LEnv) (m : LMem) : exF LP law04_finds.L0 e m = match exF LP law04_finds.B0 (LEnv.keep e [0,3,4]) m with | some (.normal,e',m') => exF LP law04_finds.L0 (LEnv.keep e' [0,3,4]) (trim m.length (envVals (LEnv.keep e' [0,3,4])) m') | r => r := exF_loop _ _ _ _ _
theorem law04_lists.L0_eq (e : LEnv) (m : LMem) : exF LP law04_lists.L0 e m = match exF LP law04_lists.B0 (LEnv.keep e [0,1,5]) m with | some (.normal,e',m') => exF LP law04_lists.L0 (LEnv.keep e' [0,1,5]) m' | r => r := exF_loop _ _ _ _ _
theorem ring_Proves.L0_eq (e : LEnv) (m : LMem) : exF LP ring_Proves.L0 e m = match exF LP ring_Proves.B0 (LEnv.keep e [1,2,20,21,22]) m with | some (.normal,e',m') => exF LP ring_Proves.L0 (LEnv.keep e' [1,2,20,21,22]) (trim m.length (envVals (LEnv.keep e' [1,2,20,21,22])) m') | r => r := exF_loop _ _ _ _ _
theorem ring_Proves.L1_eq (e : LEnv) (m : LMem) : exF LP ring_Proves.L1 e m = match exF LP ring_Proves.B1 (LEnv.keep e [1,2,10,52,53,54]) m with | some (.normal,e',m') => exF LP ring_Proves.L1 (LEnv.keep e' [1,2,10,52,53,54]) (trim m.length (envVals (LEnv.keep e' [1,2,10,52,53,54])) m') | r => r := exF_loop _ _ _ _ _
theorem ring_rings.L0_eq (e : LEnv) (m : LMem) : exF LP ring_rings.L0 e m = match exF LP ring_rings.B0 (LEnv.keep e [2,3,4,11,12,13]) m with | some (.normal,e',m') => exF LP ring_rings.L0 (LEnv.keep e' [2,3,4,11,12,13]) (trim m.length (envVals (LEnv.keep e' [2,3,4,11,12,13])) m') | r => r := exF_loop _ _ _ _ _
theorem ring_rings.L1_eq (e : LEnv) (m : LMem) : exF LP ring_rings.L1 e m = match exF LP ring_rings.B1 (LEnv.keep e [7,30,31,32]) m with | some (.normal,e',m') => exF LP ring_rings.L1 (LEnv.keep e' [7,30,31,32]) (trim m.length (envVals (LEnv.keep e' [7,30,31,32])) m') | r => r := exF_loop _ _ _ _ _
theorem ring_Apart_2.L0_eq (e : LEnv) (m : LMem) : exF LP ring_Apart_2.L0 e m = match exF LP ring_Apart_2.B0 (LEnv.keep e [0,1,3,8,20,21,22]) m with | some (.normal,e',m') => exF LP ring_Apart_2.L0 (LEnv.keep e' [0,1,3,8,20,21,22]) m' | r => r := exF_loop _ _ _ _ _
theorem ring_set.L0_eq (e : LEnv) (m : LMem) : exF LP ring_set.L0 e m = match exF LP ring_set.B0 (LEnv.keep e [3,6,7,8]) m with | some (.normal,e',m') => exF LP ring_set.L0 (LEnv.keep e' [3,6,7,8]) m' | r => r := exF_loop _ _ _ _ _
theorem slices_Min_int_int.L0_eq (e : LEnv) (m : LMem) : exF LP slices_Min_int_int.L0 e m = match exF LP slices_Min_int_int.B0 (LEnv.keep e [0,3,4]) m with | some (.normal,e',m') => exF LP slices_Min_int_int.L0 (LEnv.keep e' [0,3,4]) m' | r => r := exF_loop _ _ _ _ _
theorem law04_all_1.L0_eq (e : LEnv) (m : LMem) : exF LP law04_all_1.L0 e m = match exF LP law04_all_1.B0 (LEnv.keep e [0,3,13,14]) m with | some (.normal,e',m') => exF LP law04_all_1.L0 (LEnv.keep e' [0,3,13,14]) m' | r => r := exF_loop _ _ _ _ _
theorem ring_table_cost.L0_eq (e : LEnv) (m : LMem) : exF LP ring_table_cost.L0 e m = match exF LP ring_table_cost.B0 (LEnv.keep e [0,1,2,7,12,13]) m with | some (.normal,e',m') => exF LP ring_table_cost.L0 (LEnv.keep e' [0,1,2,7,12,13]) m' | r => r := exF_loop _ _ _ _ _
theorem ring_rings_1.L0_eq (e : LEnv) (m : LMem) : exF LP ring_rings_1.L0 e m = match exF LP ring_rings_1.B0 (LEnv.keep e [0,1,5,9,42,43,44]) m with | some (.normal,e',m') => exF LP ring_rings_1.L0 (LEnv.keep e' [0,1,5,9,42,43,44]) m' | r => r := exF_loop _ _ _ _ _
theorem progL : ProgL LP C := by
  intro f lf h
  unfold LP at h
  split at h
  · cases h; exact lok_law04_RingStruck
  · cases h; exact lok_law04_Layers_made
  · cases h; exact lok_slices_Clone_int_int
  · cases h; exact lok_ring_Against
  · cases h; exact lok_ring_Fewest
  · cases h; exact lok_law04_same
  · cases h; exact lok_law04_numbers
  · cases h; exact lok_law04_against
  · cases h; exact lok_law04_works
  · cases h; exact lok_ring_Apart
  · cases h; exact lok_ring_Strike
  · cases h; exact lok_slices_Compare_int_int
  · cases h; exact lok_slices_Contains_int_int
  · cases h; exact lok_law04_all
  · cases h; exact lok_math_bits_OnesCount
  · cases h; exact lok_ring_Order
  · cases h; exact lok_ring_Count
  · cases h; exact lok_ring_Sure
  · cases h; exact lok_law04_pairs
  · cases h; exact lok_law04_RingStruck_1
  · cases h; exact lok_law04_ringless
  · cases h; exact lok_ring_Turn
  · cases h; exact lok_ring_Check
  · cases h; exact lok_slices_Repeat_int_int
  · cases h; exact lok_ring_between
  · cases h; exact lok_ring_filled
  · cases h; exact lok_ring_anyForm
  · cases h; exact lok_math_bits_TrailingZeros
  · cases h; exact lok_slices_Index_int_int
  · cases h; exact lok_law04_F
  · cases h; exact lok_law04_list
  · cases h; exact lok_law04_G
  · cases h; exact lok_ring_Ring
  · cases h; exact lok_law04_finds
  · cases h; exact lok_law04_lists
  · cases h; exact lok_ring_Proves
  · cases h; exact lok_ring_rings
  · cases h; exact lok_ring_Apart_1
  · cases h; exact lok_ring_Apart_2
  · cases h; exact lok_ring_set
  · cases h; exact lok_slices_Clone_2_int_2_int
  · cases h; exact lok_slices_Delete_2_int_2_int
  · cases h; exact lok_cmp_Compare_int
  · cases h; exact lok_slices_Min_int_int
  · cases h; exact lok_law04_all_1
  · cases h; exact lok_slices_Clip_int_int
  · cases h; exact lok_math_bits_OnesCount32
  · cases h; exact lok_math_bits_OnesCount64
  · cases h; exact lok_ring_table_cost
  · cases h; exact lok_ring_Sure_1
  · cases h; exact lok_math_bits_Mul
  · cases h; exact lok_math_bits_TrailingZeros32
  · cases h; exact lok_math_bits_TrailingZeros64
  · cases h; exact lok_ring_Ring_1
  · cases h; exact lok_ring_rings_1
  · cases h; exact lok_cmp_isNaN_int
  · cases h; exact lok_math_bits_Mul32
  · cases h; exact lok_math_bits_Mul64
  · cases h
end Go.Am.Ring
