/- The program's functions as the list machine has them: they are those of the abstract machine. -/
import Derived.Test.YthnaeifkngeenaaDoorPgL0
import Derived.Test.YthnaeifkngeenaaDoorPdF
set_option maxRecDepth 100000
namespace Go.Am.Post
open Go.Am
def LP : LProg := fun f => match f with
  | 3 => some law12_PostNamed
  | 8 => some law12_Coast_made
  | 9 => some law12_list
  | 10 => some law12_members
  | 11 => some slices_Reverse_int_int
  | 12 => some slices_Contains_int_int
  | 13 => some post_Fewest
  | 14 => some post_Apart
  | 15 => some post_Count
  | 16 => some post_Ways
  | 17 => some post_Always
  | 18 => some law12_works
  | 23 => some law12_same
  | 24 => some post_Guards
  | 25 => some post_Proves
  | 26 => some post_Hand
  | 28 => some post_Never
  | 29 => some post_Cheapest
  | 30 => some math_bits_TrailingZeros
  | 31 => some slices_Index_int_int
  | 32 => some post_Check
  | 33 => some post_first
  | 34 => some post_same
  | 35 => some post_hands
  | 36 => some post_Apart_1
  | 37 => some post_Count_1
  | 38 => some post_Count_2
  | 39 => some post_rating_int_whole
  | 40 => some post_Ways_1
  | 41 => some post_Ways_2
  | 42 => some post_Ways_3
  | 43 => some post_rating_post_few_whole
  | 44 => some post_asked
  | 45 => some post_Always_1
  | 46 => some law12_C
  | 47 => some law12_A
  | 48 => some law12_B
  | 49 => some slices_ContainsFunc_uint_uint
  | 52 => some post_listed
  | 53 => some post_Guards_1
  | 54 => some post_members
  | 57 => some post_Never_1
  | 58 => some slices_Min_int_int
  | 59 => some slices_Max_int_int
  | 60 => some post_Cheapest_1
  | 61 => some math_bits_TrailingZeros32
  | 62 => some math_bits_TrailingZeros64
  | 63 => some post_priced
  | 64 => some post_rating_int_rate
  | 65 => some post_rating_post_few_rate
  | 66 => some slices_IndexFunc_uint_uint
  | 68 => some post_priced_1
  | 69 => some post_priced_2
  | _ => none
def LfOk (i : Nat) (lf : LFunc) : Prop := ∃ af, C i = some af ∧ af.results = lf.results ∧ af.body = lf.body.erase ∧ lf.body.good = true
theorem lp_law12_PostNamed : LP n_law12_PostNamed = some law12_PostNamed := by kernel_rfl
theorem lok_law12_PostNamed : LfOk 3 law12_PostNamed := ⟨F3, by kernel_rfl, by kernel_rfl, by kernel_rfl, by kernel_rfl⟩
theorem lp_law12_Coast_made : LP n_law12_Coast_made = some law12_Coast_made := by kernel_rfl
theorem lok_law12_Coast_made : LfOk 8 law12_Coast_made := ⟨F8, by kernel_rfl, by kernel_rfl, by kernel_rfl, by kernel_rfl⟩
theorem lp_law12_list : LP n_law12_list = some law12_list := by kernel_rfl
theorem lok_law12_list : LfOk 9 law12_list := ⟨F9, by kernel_rfl, by kernel_rfl, by kernel_rfl, by kernel_rfl⟩
theorem lp_law12_members : LP n_law12_members = some law12_members := by kernel_rfl
theorem lok_law12_members : LfOk 10 law12_members := ⟨F10, by kernel_rfl, by kernel_rfl, by kernel_rfl, by kernel_rfl⟩
theorem lp_slices_Reverse_int_int : LP n_slices_Reverse_int_int = some slices_Reverse_int_int := by kernel_rfl
theorem lok_slices_Reverse_int_int : LfOk 11 slices_Reverse_int_int := ⟨F11, by kernel_rfl, by kernel_rfl, by kernel_rfl, by kernel_rfl⟩
theorem lp_slices_Contains_int_int : LP n_slices_Contains_int_int = some slices_Contains_int_int := by kernel_rfl
theorem lok_slices_Contains_int_int : LfOk 12 slices_Contains_int_int := ⟨F12, by kernel_rfl, by kernel_rfl, by kernel_rfl, by kernel_rfl⟩
theorem lp_post_Fewest : LP n_post_Fewest = some post_Fewest := by kernel_rfl
theorem lok_post_Fewest : LfOk 13 post_Fewest := ⟨F13, by kernel_rfl, by kernel_rfl, by kernel_rfl, by kernel_rfl⟩
theorem lp_post_Apart : LP n_post_Apart = some post_Apart := by kernel_rfl
theorem lok_post_Apart : LfOk 14 post_Apart := ⟨F14, by kernel_rfl, by kernel_rfl, by kernel_rfl, by kernel_rfl⟩
theorem lp_post_Count : LP n_post_Count = some post_Count := by kernel_rfl
theorem lok_post_Count : LfOk 15 post_Count := ⟨F15, by kernel_rfl, by kernel_rfl, by kernel_rfl, by kernel_rfl⟩
theorem lp_post_Ways : LP n_post_Ways = some post_Ways := by kernel_rfl
theorem lok_post_Ways : LfOk 16 post_Ways := ⟨F16, by kernel_rfl, by kernel_rfl, by kernel_rfl, by kernel_rfl⟩
theorem lp_post_Always : LP n_post_Always = some post_Always := by kernel_rfl
theorem lok_post_Always : LfOk 17 post_Always := ⟨F17, by kernel_rfl, by kernel_rfl, by kernel_rfl, by kernel_rfl⟩
theorem lp_law12_works : LP n_law12_works = some law12_works := by kernel_rfl
theorem lok_law12_works : LfOk 18 law12_works := ⟨F18, by kernel_rfl, by kernel_rfl, by kernel_rfl, by kernel_rfl⟩
theorem lp_law12_same : LP n_law12_same = some law12_same := by kernel_rfl
theorem lok_law12_same : LfOk 23 law12_same := ⟨F23, by kernel_rfl, by kernel_rfl, by kernel_rfl, by kernel_rfl⟩
theorem lp_post_Guards : LP n_post_Guards = some post_Guards := by kernel_rfl
theorem lok_post_Guards : LfOk 24 post_Guards := ⟨F24, by kernel_rfl, by kernel_rfl, by kernel_rfl, by kernel_rfl⟩
theorem lp_post_Proves : LP n_post_Proves = some post_Proves := by kernel_rfl
theorem lok_post_Proves : LfOk 25 post_Proves := ⟨F25, by kernel_rfl, by kernel_rfl, by kernel_rfl, by kernel_rfl⟩
theorem lp_post_Hand : LP n_post_Hand = some post_Hand := by kernel_rfl
theorem lok_post_Hand : LfOk 26 post_Hand := ⟨F26, by kernel_rfl, by kernel_rfl, by kernel_rfl, by kernel_rfl⟩
theorem lp_post_Never : LP n_post_Never = some post_Never := by kernel_rfl
theorem lok_post_Never : LfOk 28 post_Never := ⟨F28, by kernel_rfl, by kernel_rfl, by kernel_rfl, by kernel_rfl⟩
theorem lp_post_Cheapest : LP n_post_Cheapest = some post_Cheapest := by kernel_rfl
theorem lok_post_Cheapest : LfOk 29 post_Cheapest := ⟨F29, by kernel_rfl, by kernel_rfl, by kernel_rfl, by kernel_rfl⟩
theorem lp_math_bits_TrailingZeros : LP n_math_bits_TrailingZeros = some math_bits_TrailingZeros := by kernel_rfl
theorem lok_math_bits_TrailingZeros : LfOk 30 math_bits_TrailingZeros := ⟨F30, by kernel_rfl, by kernel_rfl, by kernel_rfl, by kernel_rfl⟩
theorem lp_slices_Index_int_int : LP n_slices_Index_int_int = some slices_Index_int_int := by kernel_rfl
theorem lok_slices_Index_int_int : LfOk 31 slices_Index_int_int := ⟨F31, by kernel_rfl, by kernel_rfl, by kernel_rfl, by kernel_rfl⟩
theorem lp_post_Check : LP n_post_Check = some post_Check := by kernel_rfl
theorem lok_post_Check : LfOk 32 post_Check := ⟨F32, by kernel_rfl, by kernel_rfl, by kernel_rfl, by kernel_rfl⟩
theorem lp_post_first : LP n_post_first = some post_first := by kernel_rfl
theorem lok_post_first : LfOk 33 post_first := ⟨F33, by kernel_rfl, by kernel_rfl, by kernel_rfl, by kernel_rfl⟩
theorem lp_post_same : LP n_post_same = some post_same := by kernel_rfl
theorem lok_post_same : LfOk 34 post_same := ⟨F34, by kernel_rfl, by kernel_rfl, by kernel_rfl, by kernel_rfl⟩
theorem lp_post_hands : LP n_post_hands = some post_hands := by kernel_rfl
theorem lok_post_hands : LfOk 35 post_hands := ⟨F35, by kernel_rfl, by kernel_rfl, by kernel_rfl, by kernel_rfl⟩
theorem lp_post_Apart_1 : LP n_post_Apart_1 = some post_Apart_1 := by kernel_rfl
theorem lok_post_Apart_1 : LfOk 36 post_Apart_1 := ⟨F36, by kernel_rfl, by kernel_rfl, by kernel_rfl, by kernel_rfl⟩
theorem lp_post_Count_1 : LP n_post_Count_1 = some post_Count_1 := by kernel_rfl
theorem lok_post_Count_1 : LfOk 37 post_Count_1 := ⟨F37, by kernel_rfl, by kernel_rfl, by kernel_rfl, by kernel_rfl⟩
theorem lp_post_Count_2 : LP n_post_Count_2 = some post_Count_2 := by kernel_rfl
theorem lok_post_Count_2 : LfOk 38 post_Count_2 := ⟨F38, by kernel_rfl, by kernel_rfl, by kernel_rfl, by kernel_rfl⟩
theorem lp_post_rating_int_whole : LP n_post_rating_int_whole = some post_rating_int_whole := by kernel_rfl
theorem lok_post_rating_int_whole : LfOk 39 post_rating_int_whole := ⟨F39, by kernel_rfl, by kernel_rfl, by kernel_rfl, by kernel_rfl⟩
theorem lp_post_Ways_1 : LP n_post_Ways_1 = some post_Ways_1 := by kernel_rfl
theorem lok_post_Ways_1 : LfOk 40 post_Ways_1 := ⟨F40, by kernel_rfl, by kernel_rfl, by kernel_rfl, by kernel_rfl⟩
theorem lp_post_Ways_2 : LP n_post_Ways_2 = some post_Ways_2 := by kernel_rfl
theorem lok_post_Ways_2 : LfOk 41 post_Ways_2 := ⟨F41, by kernel_rfl, by kernel_rfl, by kernel_rfl, by kernel_rfl⟩
theorem lp_post_Ways_3 : LP n_post_Ways_3 = some post_Ways_3 := by kernel_rfl
theorem lok_post_Ways_3 : LfOk 42 post_Ways_3 := ⟨F42, by kernel_rfl, by kernel_rfl, by kernel_rfl, by kernel_rfl⟩
theorem lp_post_rating_post_few_whole : LP n_post_rating_post_few_whole = some post_rating_post_few_whole := by kernel_rfl
theorem lok_post_rating_post_few_whole : LfOk 43 post_rating_post_few_whole := ⟨F43, by kernel_rfl, by kernel_rfl, by kernel_rfl, by kernel_rfl⟩
theorem lp_post_asked : LP n_post_asked = some post_asked := by kernel_rfl
theorem lok_post_asked : LfOk 44 post_asked := ⟨F44, by kernel_rfl, by kernel_rfl, by kernel_rfl, by kernel_rfl⟩
theorem lp_post_Always_1 : LP n_post_Always_1 = some post_Always_1 := by kernel_rfl
theorem lok_post_Always_1 : LfOk 45 post_Always_1 := ⟨F45, by kernel_rfl, by kernel_rfl, by kernel_rfl, by kernel_rfl⟩
theorem lp_law12_C : LP n_law12_C = some law12_C := by kernel_rfl
theorem lok_law12_C : LfOk 46 law12_C := ⟨F46, by kernel_rfl, by kernel_rfl, by kernel_rfl, by kernel_rfl⟩
theorem lp_law12_A : LP n_law12_A = some law12_A := by kernel_rfl
theorem lok_law12_A : LfOk 47 law12_A := ⟨F47, by kernel_rfl, by kernel_rfl, by kernel_rfl, by kernel_rfl⟩
theorem lp_law12_B : LP n_law12_B = some law12_B := by kernel_rfl
theorem lok_law12_B : LfOk 48 law12_B := ⟨F48, by kernel_rfl, by kernel_rfl, by kernel_rfl, by kernel_rfl⟩
theorem lok_slices_ContainsFunc_uint_uint : LfOk 49 slices_ContainsFunc_uint_uint := ⟨F49, by kernel_rfl, by kernel_rfl, by kernel_rfl, by kernel_rfl⟩
theorem lok_post_listed : LfOk 52 post_listed := ⟨F52, by kernel_rfl, by kernel_rfl, by kernel_rfl, by kernel_rfl⟩
theorem lok_post_Guards_1 : LfOk 53 post_Guards_1 := ⟨F53, by kernel_rfl, by kernel_rfl, by kernel_rfl, by kernel_rfl⟩
theorem lp_post_members : LP n_post_members = some post_members := by kernel_rfl
theorem lok_post_members : LfOk 54 post_members := ⟨F54, by kernel_rfl, by kernel_rfl, by kernel_rfl, by kernel_rfl⟩
theorem lok_post_Never_1 : LfOk 57 post_Never_1 := ⟨F57, by kernel_rfl, by kernel_rfl, by kernel_rfl, by kernel_rfl⟩
theorem lok_slices_Min_int_int : LfOk 58 slices_Min_int_int := ⟨F58, by kernel_rfl, by kernel_rfl, by kernel_rfl, by kernel_rfl⟩
theorem lok_slices_Max_int_int : LfOk 59 slices_Max_int_int := ⟨F59, by kernel_rfl, by kernel_rfl, by kernel_rfl, by kernel_rfl⟩
theorem lok_post_Cheapest_1 : LfOk 60 post_Cheapest_1 := ⟨F60, by kernel_rfl, by kernel_rfl, by kernel_rfl, by kernel_rfl⟩
theorem lok_math_bits_TrailingZeros32 : LfOk 61 math_bits_TrailingZeros32 := ⟨F61, by kernel_rfl, by kernel_rfl, by kernel_rfl, by kernel_rfl⟩
theorem lok_math_bits_TrailingZeros64 : LfOk 62 math_bits_TrailingZeros64 := ⟨F62, by kernel_rfl, by kernel_rfl, by kernel_rfl, by kernel_rfl⟩
theorem lp_post_priced : LP n_post_priced = some post_priced := by kernel_rfl
theorem lok_post_priced : LfOk 63 post_priced := ⟨F63, by kernel_rfl, by kernel_rfl, by kernel_rfl, by kernel_rfl⟩
theorem lp_post_rating_int_rate : LP n_post_rating_int_rate = some post_rating_int_rate := by kernel_rfl
theorem lok_post_rating_int_rate : LfOk 64 post_rating_int_rate := ⟨F64, by kernel_rfl, by kernel_rfl, by kernel_rfl, by kernel_rfl⟩
theorem lp_post_rating_post_few_rate : LP n_post_rating_post_few_rate = some post_rating_post_few_rate := by kernel_rfl
theorem lok_post_rating_post_few_rate : LfOk 65 post_rating_post_few_rate := ⟨F65, by kernel_rfl, by kernel_rfl, by kernel_rfl, by kernel_rfl⟩
theorem lok_slices_IndexFunc_uint_uint : LfOk 66 slices_IndexFunc_uint_uint := ⟨F66, by kernel_rfl, by kernel_rfl, by kernel_rfl, by kernel_rfl⟩
theorem lp_post_priced_1 : LP n_post_priced_1 = some post_priced_1 := by kernel_rfl
theorem lok_post_priced_1 : LfOk 68 post_priced_1 := ⟨F68, by kernel_rfl, by kernel_rfl, by kernel_rfl, by kernel_rfl⟩
theorem lp_post_priced_2 : LP n_post_priced_2 = some post_priced_2 := by kernel_rfl
theorem lok_post_priced_2 : LfOk 69 post_priced_2 := ⟨F69, by kernel_rfl, by kernel_rfl, by kernel_rfl, by kernel_rfl⟩
theorem law12_PostNamed.L0_eq (e : LEnv) (m : LMem) : exF LP law12_PostNamed.L0 e m = match exF LP law12_PostNamed.B0 (LEnv.keep e [2, 7, 8, 9, 10, 11, 12, 62, 63, 64]) m with | some (.normal, e', m') => exF LP law12_PostNamed.L0 (LEnv.keep e' [2, 7, 8, 9, 10, 11, 12, 62, 63, 64]) m' | r => r := exF_loop _ _ _ _ _
theorem law12_PostNamed.L1_eq (e : LEnv) (m : LMem) : exF LP law12_PostNamed.L1 e m = match exF LP law12_PostNamed.B1 (LEnv.keep e [2, 7, 8, 9, 10, 11, 12]) m with | some (.normal, e', m') => exF LP law12_PostNamed.L1 (LEnv.keep e' [2, 7, 8, 9, 10, 11, 12]) m' | r => r := exF_loop _ _ _ _ _
theorem law12_PostNamed.L2_eq (e : LEnv) (m : LMem) : exF LP law12_PostNamed.L2 e m = match exF LP law12_PostNamed.B2 (LEnv.keep e [9, 10, 26, 194, 195, 196]) m with | some (.normal, e', m') => exF LP law12_PostNamed.L2 (LEnv.keep e' [9, 10, 26, 194, 195, 196]) m' | r => r := exF_loop _ _ _ _ _
theorem law12_Coast_made.L0_eq (e : LEnv) (m : LMem) : exF LP law12_Coast_made.L0 e m = match exF LP law12_Coast_made.B0 (LEnv.keep e [2, 6, 7, 8, 9]) m with | some (.normal, e', m') => exF LP law12_Coast_made.L0 (LEnv.keep e' [2, 6, 7, 8, 9]) m' | r => r := exF_loop _ _ _ _ _
theorem law12_members.L0_eq (e : LEnv) (m : LMem) : exF LP law12_members.L0 e m = match exF LP law12_members.B0 (LEnv.keep e [0, 3]) m with | some (.normal, e', m') => exF LP law12_members.L0 (LEnv.keep e' [0, 3]) m' | r => r := exF_loop _ _ _ _ _
theorem slices_Reverse_int_int.L0_eq (e : LEnv) (m : LMem) : exF LP slices_Reverse_int_int.L0 e m = match exF LP slices_Reverse_int_int.B0 (LEnv.keep e [0, 2, 3]) m with | some (.normal, e', m') => exF LP slices_Reverse_int_int.L0 (LEnv.keep e' [0, 2, 3]) m' | r => r := exF_loop _ _ _ _ _
theorem post_Apart.L0_eq (e : LEnv) (m : LMem) : exF LP post_Apart.L0 e m = match exF LP post_Apart.B0 (LEnv.keep e [5, 6, 7, 8, 19, 20]) m with | some (.normal, e', m') => exF LP post_Apart.L0 (LEnv.keep e' [5, 6, 7, 8, 19, 20]) m' | r => r := exF_loop _ _ _ _ _
theorem law12_same.L0_eq (e : LEnv) (m : LMem) : exF LP law12_same.L0 e m = match exF LP law12_same.B0 (LEnv.keep e [0, 1, 5]) m with | some (.normal, e', m') => exF LP law12_same.L0 (LEnv.keep e' [0, 1, 5]) m' | r => r := exF_loop _ _ _ _ _
theorem post_Proves.L0_eq (e : LEnv) (m : LMem) : exF LP post_Proves.L0 e m = match exF LP post_Proves.B0 (LEnv.keep e [7, 8, 22, 23, 24]) m with | some (.normal, e', m') => exF LP post_Proves.L0 (LEnv.keep e' [7, 8, 22, 23, 24]) m' | r => r := exF_loop _ _ _ _ _
theorem slices_Index_int_int.L0_eq (e : LEnv) (m : LMem) : exF LP slices_Index_int_int.L0 e m = match exF LP slices_Index_int_int.B0 (LEnv.keep e [0, 1, 7, 8]) m with | some (.normal, e', m') => exF LP slices_Index_int_int.L0 (LEnv.keep e' [0, 1, 7, 8]) m' | r => r := exF_loop _ _ _ _ _
theorem post_Check.L0_eq (e : LEnv) (m : LMem) : exF LP post_Check.L0 e m = match exF LP post_Check.B0 (LEnv.keep e [0, 18, 19]) m with | some (.normal, e', m') => exF LP post_Check.L0 (LEnv.keep e' [0, 18, 19]) m' | r => r := exF_loop _ _ _ _ _
theorem post_first.L0_eq (e : LEnv) (m : LMem) : exF LP post_first.L0 e m = match exF LP post_first.B0 (LEnv.keep e [0, 5, 6, 15, 16]) m with | some (.normal, e', m') => exF LP post_first.L0 (LEnv.keep e' [0, 5, 6, 15, 16]) (trim m.length (envVals (LEnv.keep e' [0, 5, 6, 15, 16])) m') | r => r := exF_loop _ _ _ _ _
theorem post_hands.L0_eq (e : LEnv) (m : LMem) : exF LP post_hands.L0 e m = match exF LP post_hands.B0 (LEnv.keep e [0, 3, 10, 11]) m with | some (.normal, e', m') => exF LP post_hands.L0 (LEnv.keep e' [0, 3, 10, 11]) m' | r => r := exF_loop _ _ _ _ _
theorem post_Apart_1.L0_eq (e : LEnv) (m : LMem) : exF LP post_Apart_1.L0 e m = match exF LP post_Apart_1.B0 (LEnv.keep e [1, 2, 3, 4, 8, 9]) m with | some (.normal, e', m') => exF LP post_Apart_1.L0 (LEnv.keep e' [1, 2, 3, 4, 8, 9]) m' | r => r := exF_loop _ _ _ _ _
theorem post_asked.L0_eq (e : LEnv) (m : LMem) : exF LP post_asked.L0 e m = match exF LP post_asked.B0 (LEnv.keep e [0, 1, 7, 8, 20, 21]) m with | some (.normal, e', m') => exF LP post_asked.L0 (LEnv.keep e' [0, 1, 7, 8, 20, 21]) (trim m.length (envVals (LEnv.keep e' [0, 1, 7, 8, 20, 21])) m') | r => r := exF_loop _ _ _ _ _
theorem post_listed.L0_eq (e : LEnv) (m : LMem) : exF LP post_listed.L0 e m = match exF LP post_listed.B0 (LEnv.keep e [0, 7, 8, 16, 17, 18]) m with | some (.normal, e', m') => exF LP post_listed.L0 (LEnv.keep e' [0, 7, 8, 16, 17, 18]) m' | r => r := exF_loop _ _ _ _ _
theorem post_members.L0_eq (e : LEnv) (m : LMem) : exF LP post_members.L0 e m = match exF LP post_members.B0 (LEnv.keep e [0, 3, 5]) m with | some (.normal, e', m') => exF LP post_members.L0 (LEnv.keep e' [0, 3, 5]) m' | r => r := exF_loop _ _ _ _ _
theorem slices_Min_int_int.L0_eq (e : LEnv) (m : LMem) : exF LP slices_Min_int_int.L0 e m = match exF LP slices_Min_int_int.B0 (LEnv.keep e [0, 3, 4]) m with | some (.normal, e', m') => exF LP slices_Min_int_int.L0 (LEnv.keep e' [0, 3, 4]) m' | r => r := exF_loop _ _ _ _ _
theorem slices_Max_int_int.L0_eq (e : LEnv) (m : LMem) : exF LP slices_Max_int_int.L0 e m = match exF LP slices_Max_int_int.B0 (LEnv.keep e [0, 3, 4]) m with | some (.normal, e', m') => exF LP slices_Max_int_int.L0 (LEnv.keep e' [0, 3, 4]) m' | r => r := exF_loop _ _ _ _ _
theorem post_rating_int_rate.L0_eq (e : LEnv) (m : LMem) : exF LP post_rating_int_rate.L0 e m = match exF LP post_rating_int_rate.B0 (LEnv.keep e [0, 1, 4, 5, 16, 17]) m with | some (.normal, e', m') => exF LP post_rating_int_rate.L0 (LEnv.keep e' [0, 1, 4, 5, 16, 17]) (trim m.length (envVals (LEnv.keep e' [0, 1, 4, 5, 16, 17])) m') | r => r := exF_loop _ _ _ _ _
theorem post_rating_int_rate.L1_eq (e : LEnv) (m : LMem) : exF LP post_rating_int_rate.L1 e m = match exF LP post_rating_int_rate.B1 (LEnv.keep e [0, 1, 4, 5, 81, 82]) m with | some (.normal, e', m') => exF LP post_rating_int_rate.L1 (LEnv.keep e' [0, 1, 4, 5, 81, 82]) (trim m.length (envVals (LEnv.keep e' [0, 1, 4, 5, 81, 82])) m') | r => r := exF_loop _ _ _ _ _
theorem post_rating_post_few_rate.L0_eq (e : LEnv) (m : LMem) : exF LP post_rating_post_few_rate.L0 e m = match exF LP post_rating_post_few_rate.B0 (LEnv.keep e [0, 1, 4, 5, 16, 17]) m with | some (.normal, e', m') => exF LP post_rating_post_few_rate.L0 (LEnv.keep e' [0, 1, 4, 5, 16, 17]) (trim m.length (envVals (LEnv.keep e' [0, 1, 4, 5, 16, 17])) m') | r => r := exF_loop _ _ _ _ _
theorem post_rating_post_few_rate.L1_eq (e : LEnv) (m : LMem) : exF LP post_rating_post_few_rate.L1 e m = match exF LP post_rating_post_few_rate.B1 (LEnv.keep e [0, 1, 4, 5, 81, 82]) m with | some (.normal, e', m') => exF LP post_rating_post_few_rate.L1 (LEnv.keep e' [0, 1, 4, 5, 81, 82]) (trim m.length (envVals (LEnv.keep e' [0, 1, 4, 5, 81, 82])) m') | r => r := exF_loop _ _ _ _ _
theorem slices_IndexFunc_uint_uint.L0_eq (e : LEnv) (m : LMem) : exF LP slices_IndexFunc_uint_uint.L0 e m = match exF LP slices_IndexFunc_uint_uint.B0 (LEnv.keep e [0, 1, 7, 8]) m with | some (.normal, e', m') => exF LP slices_IndexFunc_uint_uint.L0 (LEnv.keep e' [0, 1, 7, 8]) m' | r => r := exF_loop _ _ _ _ _
theorem progL : ProgL LP C := by
  intro f lf h
  unfold LP at h
  split at h
  · cases h; exact lok_law12_PostNamed
  · cases h; exact lok_law12_Coast_made
  · cases h; exact lok_law12_list
  · cases h; exact lok_law12_members
  · cases h; exact lok_slices_Reverse_int_int
  · cases h; exact lok_slices_Contains_int_int
  · cases h; exact lok_post_Fewest
  · cases h; exact lok_post_Apart
  · cases h; exact lok_post_Count
  · cases h; exact lok_post_Ways
  · cases h; exact lok_post_Always
  · cases h; exact lok_law12_works
  · cases h; exact lok_law12_same
  · cases h; exact lok_post_Guards
  · cases h; exact lok_post_Proves
  · cases h; exact lok_post_Hand
  · cases h; exact lok_post_Never
  · cases h; exact lok_post_Cheapest
  · cases h; exact lok_math_bits_TrailingZeros
  · cases h; exact lok_slices_Index_int_int
  · cases h; exact lok_post_Check
  · cases h; exact lok_post_first
  · cases h; exact lok_post_same
  · cases h; exact lok_post_hands
  · cases h; exact lok_post_Apart_1
  · cases h; exact lok_post_Count_1
  · cases h; exact lok_post_Count_2
  · cases h; exact lok_post_rating_int_whole
  · cases h; exact lok_post_Ways_1
  · cases h; exact lok_post_Ways_2
  · cases h; exact lok_post_Ways_3
  · cases h; exact lok_post_rating_post_few_whole
  · cases h; exact lok_post_asked
  · cases h; exact lok_post_Always_1
  · cases h; exact lok_law12_C
  · cases h; exact lok_law12_A
  · cases h; exact lok_law12_B
  · cases h; exact lok_slices_ContainsFunc_uint_uint
  · cases h; exact lok_post_listed
  · cases h; exact lok_post_Guards_1
  · cases h; exact lok_post_members
  · cases h; exact lok_post_Never_1
  · cases h; exact lok_slices_Min_int_int
  · cases h; exact lok_slices_Max_int_int
  · cases h; exact lok_post_Cheapest_1
  · cases h; exact lok_math_bits_TrailingZeros32
  · cases h; exact lok_math_bits_TrailingZeros64
  · cases h; exact lok_post_priced
  · cases h; exact lok_post_rating_int_rate
  · cases h; exact lok_post_rating_post_few_rate
  · cases h; exact lok_slices_IndexFunc_uint_uint
  · cases h; exact lok_post_priced_1
  · cases h; exact lok_post_priced_2
  · cases h
end Go.Am.Post

