/- The program's functions as the list machine has them: they are those of the abstract machine. -/
import Derived.Test.YthnaeifkngeenaaPostL0
import Derived.Test.YthnaeifkngeenaaPostF
set_option maxRecDepth 100000
namespace Go.Am.Post
open Go.Am
def LP : LProg := fun f => match f with
  | 7 => some law12_PostMore
  | 8 => some law12_works
  | 9 => some post_Hand
  | 11 => some law12_same
  | 12 => some post_Check
  | 14 => some post_Guards
  | 16 => some post_Proves
  | 18 => some post_Fewest
  | 20 => some post_Apart
  | 22 => some post_Cheapest
  | 24 => some post_Count
  | 26 => some post_Ways
  | 28 => some post_Always
  | 30 => some post_Never
  | 32 => some law12_C
  | 33 => some law12_A
  | 34 => some law12_B
  | 35 => some law12_list
  | 36 => some law12_Coast_made
  | 37 => some slices_Clone_int_int
  | 38 => some law12_PostMore_1
  | 39 => some post_members
  | 40 => some post_hands
  | 43 => some post_listed
  | 44 => some slices_ContainsFunc_uint_uint
  | 45 => some post_Guards_1
  | 49 => some post_first
  | 50 => some post_same
  | 53 => some post_Apart_1
  | 55 => some slices_Min_int_int
  | 56 => some slices_Max_int_int
  | 57 => some post_Cheapest_1
  | 59 => some post_Count_1
  | 60 => some post_Count_2
  | 61 => some post_rating_int_whole
  | 62 => some post_Ways_1
  | 63 => some post_Ways_2
  | 64 => some post_Ways_3
  | 65 => some post_rating_post_few_whole
  | 66 => some post_asked
  | 67 => some post_Always_1
  | 69 => some post_Never_1
  | 70 => some slices_IndexFunc_uint_uint
  | 72 => some post_priced
  | 73 => some post_rating_int_rate
  | 74 => some post_rating_post_few_rate
  | 76 => some post_priced_1
  | 77 => some post_priced_2
  | _ => none
def LfOk (i : Nat) (lf : LFunc) : Prop := ∃ af, C i = some af ∧ af.results = lf.results ∧ af.body = lf.body.erase ∧ lf.body.good = true
theorem lp_law12_PostMore : LP n_law12_PostMore = some law12_PostMore := by kernel_rfl
theorem lok_law12_PostMore : LfOk 7 law12_PostMore := ⟨F7, by kernel_rfl, by kernel_rfl, by kernel_rfl, by kernel_rfl⟩
theorem lp_law12_works : LP n_law12_works = some law12_works := by kernel_rfl
theorem lok_law12_works : LfOk 8 law12_works := ⟨F8, by kernel_rfl, by kernel_rfl, by kernel_rfl, by kernel_rfl⟩
theorem lp_post_Hand : LP n_post_Hand = some post_Hand := by kernel_rfl
theorem lok_post_Hand : LfOk 9 post_Hand := ⟨F9, by kernel_rfl, by kernel_rfl, by kernel_rfl, by kernel_rfl⟩
theorem lp_law12_same : LP n_law12_same = some law12_same := by kernel_rfl
theorem lok_law12_same : LfOk 11 law12_same := ⟨F11, by kernel_rfl, by kernel_rfl, by kernel_rfl, by kernel_rfl⟩
theorem lp_post_Check : LP n_post_Check = some post_Check := by kernel_rfl
theorem lok_post_Check : LfOk 12 post_Check := ⟨F12, by kernel_rfl, by kernel_rfl, by kernel_rfl, by kernel_rfl⟩
theorem lp_post_Guards : LP n_post_Guards = some post_Guards := by kernel_rfl
theorem lok_post_Guards : LfOk 14 post_Guards := ⟨F14, by kernel_rfl, by kernel_rfl, by kernel_rfl, by kernel_rfl⟩
theorem lp_post_Proves : LP n_post_Proves = some post_Proves := by kernel_rfl
theorem lok_post_Proves : LfOk 16 post_Proves := ⟨F16, by kernel_rfl, by kernel_rfl, by kernel_rfl, by kernel_rfl⟩
theorem lp_post_Fewest : LP n_post_Fewest = some post_Fewest := by kernel_rfl
theorem lok_post_Fewest : LfOk 18 post_Fewest := ⟨F18, by kernel_rfl, by kernel_rfl, by kernel_rfl, by kernel_rfl⟩
theorem lp_post_Apart : LP n_post_Apart = some post_Apart := by kernel_rfl
theorem lok_post_Apart : LfOk 20 post_Apart := ⟨F20, by kernel_rfl, by kernel_rfl, by kernel_rfl, by kernel_rfl⟩
theorem lp_post_Cheapest : LP n_post_Cheapest = some post_Cheapest := by kernel_rfl
theorem lok_post_Cheapest : LfOk 22 post_Cheapest := ⟨F22, by kernel_rfl, by kernel_rfl, by kernel_rfl, by kernel_rfl⟩
theorem lp_post_Count : LP n_post_Count = some post_Count := by kernel_rfl
theorem lok_post_Count : LfOk 24 post_Count := ⟨F24, by kernel_rfl, by kernel_rfl, by kernel_rfl, by kernel_rfl⟩
theorem lp_post_Ways : LP n_post_Ways = some post_Ways := by kernel_rfl
theorem lok_post_Ways : LfOk 26 post_Ways := ⟨F26, by kernel_rfl, by kernel_rfl, by kernel_rfl, by kernel_rfl⟩
theorem lp_post_Always : LP n_post_Always = some post_Always := by kernel_rfl
theorem lok_post_Always : LfOk 28 post_Always := ⟨F28, by kernel_rfl, by kernel_rfl, by kernel_rfl, by kernel_rfl⟩
theorem lp_post_Never : LP n_post_Never = some post_Never := by kernel_rfl
theorem lok_post_Never : LfOk 30 post_Never := ⟨F30, by kernel_rfl, by kernel_rfl, by kernel_rfl, by kernel_rfl⟩
theorem lp_law12_C : LP n_law12_C = some law12_C := by kernel_rfl
theorem lok_law12_C : LfOk 32 law12_C := ⟨F32, by kernel_rfl, by kernel_rfl, by kernel_rfl, by kernel_rfl⟩
theorem lp_law12_A : LP n_law12_A = some law12_A := by kernel_rfl
theorem lok_law12_A : LfOk 33 law12_A := ⟨F33, by kernel_rfl, by kernel_rfl, by kernel_rfl, by kernel_rfl⟩
theorem lp_law12_B : LP n_law12_B = some law12_B := by kernel_rfl
theorem lok_law12_B : LfOk 34 law12_B := ⟨F34, by kernel_rfl, by kernel_rfl, by kernel_rfl, by kernel_rfl⟩
theorem lp_law12_list : LP n_law12_list = some law12_list := by kernel_rfl
theorem lok_law12_list : LfOk 35 law12_list := ⟨F35, by kernel_rfl, by kernel_rfl, by kernel_rfl, by kernel_rfl⟩
theorem lp_law12_Coast_made : LP n_law12_Coast_made = some law12_Coast_made := by kernel_rfl
theorem lok_law12_Coast_made : LfOk 36 law12_Coast_made := ⟨F36, by kernel_rfl, by kernel_rfl, by kernel_rfl, by kernel_rfl⟩
theorem lp_slices_Clone_int_int : LP n_slices_Clone_int_int = some slices_Clone_int_int := by kernel_rfl
theorem lok_slices_Clone_int_int : LfOk 37 slices_Clone_int_int := ⟨F37, by kernel_rfl, by kernel_rfl, by kernel_rfl, by kernel_rfl⟩
theorem lp_law12_PostMore_1 : LP n_law12_PostMore_1 = some law12_PostMore_1 := by kernel_rfl
theorem lok_law12_PostMore_1 : LfOk 38 law12_PostMore_1 := ⟨F38, by kernel_rfl, by kernel_rfl, by kernel_rfl, by kernel_rfl⟩
theorem lp_post_members : LP n_post_members = some post_members := by kernel_rfl
theorem lok_post_members : LfOk 39 post_members := ⟨F39, by kernel_rfl, by kernel_rfl, by kernel_rfl, by kernel_rfl⟩
theorem lp_post_hands : LP n_post_hands = some post_hands := by kernel_rfl
theorem lok_post_hands : LfOk 40 post_hands := ⟨F40, by kernel_rfl, by kernel_rfl, by kernel_rfl, by kernel_rfl⟩
theorem lok_post_listed : LfOk 43 post_listed := ⟨F43, by kernel_rfl, by kernel_rfl, by kernel_rfl, by kernel_rfl⟩
theorem lok_slices_ContainsFunc_uint_uint : LfOk 44 slices_ContainsFunc_uint_uint := ⟨F44, by kernel_rfl, by kernel_rfl, by kernel_rfl, by kernel_rfl⟩
theorem lok_post_Guards_1 : LfOk 45 post_Guards_1 := ⟨F45, by kernel_rfl, by kernel_rfl, by kernel_rfl, by kernel_rfl⟩
theorem lp_post_first : LP n_post_first = some post_first := by kernel_rfl
theorem lok_post_first : LfOk 49 post_first := ⟨F49, by kernel_rfl, by kernel_rfl, by kernel_rfl, by kernel_rfl⟩
theorem lp_post_same : LP n_post_same = some post_same := by kernel_rfl
theorem lok_post_same : LfOk 50 post_same := ⟨F50, by kernel_rfl, by kernel_rfl, by kernel_rfl, by kernel_rfl⟩
theorem lp_post_Apart_1 : LP n_post_Apart_1 = some post_Apart_1 := by kernel_rfl
theorem lok_post_Apart_1 : LfOk 53 post_Apart_1 := ⟨F53, by kernel_rfl, by kernel_rfl, by kernel_rfl, by kernel_rfl⟩
theorem lp_slices_Min_int_int : LP n_slices_Min_int_int = some slices_Min_int_int := by kernel_rfl
theorem lok_slices_Min_int_int : LfOk 55 slices_Min_int_int := ⟨F55, by kernel_rfl, by kernel_rfl, by kernel_rfl, by kernel_rfl⟩
theorem lp_slices_Max_int_int : LP n_slices_Max_int_int = some slices_Max_int_int := by kernel_rfl
theorem lok_slices_Max_int_int : LfOk 56 slices_Max_int_int := ⟨F56, by kernel_rfl, by kernel_rfl, by kernel_rfl, by kernel_rfl⟩
theorem lp_post_Cheapest_1 : LP n_post_Cheapest_1 = some post_Cheapest_1 := by kernel_rfl
theorem lok_post_Cheapest_1 : LfOk 57 post_Cheapest_1 := ⟨F57, by kernel_rfl, by kernel_rfl, by kernel_rfl, by kernel_rfl⟩
theorem lok_post_Count_1 : LfOk 59 post_Count_1 := ⟨F59, by kernel_rfl, by kernel_rfl, by kernel_rfl, by kernel_rfl⟩
theorem lok_post_Count_2 : LfOk 60 post_Count_2 := ⟨F60, by kernel_rfl, by kernel_rfl, by kernel_rfl, by kernel_rfl⟩
theorem lp_post_rating_int_whole : LP n_post_rating_int_whole = some post_rating_int_whole := by kernel_rfl
theorem lok_post_rating_int_whole : LfOk 61 post_rating_int_whole := ⟨F61, by kernel_rfl, by kernel_rfl, by kernel_rfl, by kernel_rfl⟩
theorem lok_post_Ways_1 : LfOk 62 post_Ways_1 := ⟨F62, by kernel_rfl, by kernel_rfl, by kernel_rfl, by kernel_rfl⟩
theorem lok_post_Ways_2 : LfOk 63 post_Ways_2 := ⟨F63, by kernel_rfl, by kernel_rfl, by kernel_rfl, by kernel_rfl⟩
theorem lok_post_Ways_3 : LfOk 64 post_Ways_3 := ⟨F64, by kernel_rfl, by kernel_rfl, by kernel_rfl, by kernel_rfl⟩
theorem lok_post_rating_post_few_whole : LfOk 65 post_rating_post_few_whole := ⟨F65, by kernel_rfl, by kernel_rfl, by kernel_rfl, by kernel_rfl⟩
theorem lok_post_asked : LfOk 66 post_asked := ⟨F66, by kernel_rfl, by kernel_rfl, by kernel_rfl, by kernel_rfl⟩
theorem lok_post_Always_1 : LfOk 67 post_Always_1 := ⟨F67, by kernel_rfl, by kernel_rfl, by kernel_rfl, by kernel_rfl⟩
theorem lok_post_Never_1 : LfOk 69 post_Never_1 := ⟨F69, by kernel_rfl, by kernel_rfl, by kernel_rfl, by kernel_rfl⟩
theorem lok_slices_IndexFunc_uint_uint : LfOk 70 slices_IndexFunc_uint_uint := ⟨F70, by kernel_rfl, by kernel_rfl, by kernel_rfl, by kernel_rfl⟩
theorem lp_post_priced : LP n_post_priced = some post_priced := by kernel_rfl
theorem lok_post_priced : LfOk 72 post_priced := ⟨F72, by kernel_rfl, by kernel_rfl, by kernel_rfl, by kernel_rfl⟩
theorem lp_post_rating_int_rate : LP n_post_rating_int_rate = some post_rating_int_rate := by kernel_rfl
theorem lok_post_rating_int_rate : LfOk 73 post_rating_int_rate := ⟨F73, by kernel_rfl, by kernel_rfl, by kernel_rfl, by kernel_rfl⟩
theorem lok_post_rating_post_few_rate : LfOk 74 post_rating_post_few_rate := ⟨F74, by kernel_rfl, by kernel_rfl, by kernel_rfl, by kernel_rfl⟩
theorem lp_post_priced_1 : LP n_post_priced_1 = some post_priced_1 := by kernel_rfl
theorem lok_post_priced_1 : LfOk 76 post_priced_1 := ⟨F76, by kernel_rfl, by kernel_rfl, by kernel_rfl, by kernel_rfl⟩
theorem lp_post_priced_2 : LP n_post_priced_2 = some post_priced_2 := by kernel_rfl
theorem lok_post_priced_2 : LfOk 77 post_priced_2 := ⟨F77, by kernel_rfl, by kernel_rfl, by kernel_rfl, by kernel_rfl⟩
theorem law12_PostMore.L0_eq (e : LEnv) (m : LMem) : exF LP law12_PostMore.L0 e m = match exF LP law12_PostMore.B0 (LEnv.keep e [1, 5, 7, 10, 16, 87, 88]) m with | some (.normal, e', m') => exF LP law12_PostMore.L0 (LEnv.keep e' [1, 5, 7, 10, 16, 87, 88]) m' | r => r := exF_loop _ _ _ _ _
theorem law12_same.L0_eq (e : LEnv) (m : LMem) : exF LP law12_same.L0 e m = match exF LP law12_same.B0 (LEnv.keep e [0, 1, 5]) m with | some (.normal, e', m') => exF LP law12_same.L0 (LEnv.keep e' [0, 1, 5]) m' | r => r := exF_loop _ _ _ _ _
theorem post_Check.L0_eq (e : LEnv) (m : LMem) : exF LP post_Check.L0 e m = match exF LP post_Check.B0 (LEnv.keep e [0, 18, 19]) m with | some (.normal, e', m') => exF LP post_Check.L0 (LEnv.keep e' [0, 18, 19]) m' | r => r := exF_loop _ _ _ _ _
theorem post_Proves.L0_eq (e : LEnv) (m : LMem) : exF LP post_Proves.L0 e m = match exF LP post_Proves.B0 (LEnv.keep e [7, 8, 22, 23, 24]) m with | some (.normal, e', m') => exF LP post_Proves.L0 (LEnv.keep e' [7, 8, 22, 23, 24]) m' | r => r := exF_loop _ _ _ _ _
theorem post_Apart.L0_eq (e : LEnv) (m : LMem) : exF LP post_Apart.L0 e m = match exF LP post_Apart.B0 (LEnv.keep e [5, 6, 7, 8, 19, 20]) m with | some (.normal, e', m') => exF LP post_Apart.L0 (LEnv.keep e' [5, 6, 7, 8, 19, 20]) m' | r => r := exF_loop _ _ _ _ _
theorem law12_Coast_made.L0_eq (e : LEnv) (m : LMem) : exF LP law12_Coast_made.L0 e m = match exF LP law12_Coast_made.B0 (LEnv.keep e [2, 6, 7, 8, 9]) m with | some (.normal, e', m') => exF LP law12_Coast_made.L0 (LEnv.keep e' [2, 6, 7, 8, 9]) m' | r => r := exF_loop _ _ _ _ _
theorem law12_PostMore_1.L0_eq (e : LEnv) (m : LMem) : exF LP law12_PostMore_1.L0 e m = match exF LP law12_PostMore_1.B0 (LEnv.keep e [0, 5, 8, 9, 10]) m with | some (.normal, e', m') => exF LP law12_PostMore_1.L0 (LEnv.keep e' [0, 5, 8, 9, 10]) m' | r => r := exF_loop _ _ _ _ _
theorem post_members.L0_eq (e : LEnv) (m : LMem) : exF LP post_members.L0 e m = match exF LP post_members.B0 (LEnv.keep e [0, 3, 5]) m with | some (.normal, e', m') => exF LP post_members.L0 (LEnv.keep e' [0, 3, 5]) m' | r => r := exF_loop _ _ _ _ _
theorem post_hands.L0_eq (e : LEnv) (m : LMem) : exF LP post_hands.L0 e m = match exF LP post_hands.B0 (LEnv.keep e [0, 3, 10, 11]) m with | some (.normal, e', m') => exF LP post_hands.L0 (LEnv.keep e' [0, 3, 10, 11]) m' | r => r := exF_loop _ _ _ _ _
theorem post_listed.L0_eq (e : LEnv) (m : LMem) : exF LP post_listed.L0 e m = match exF LP post_listed.B0 (LEnv.keep e [0, 7, 8, 16, 17, 18]) m with | some (.normal, e', m') => exF LP post_listed.L0 (LEnv.keep e' [0, 7, 8, 16, 17, 18]) m' | r => r := exF_loop _ _ _ _ _
theorem post_first.L0_eq (e : LEnv) (m : LMem) : exF LP post_first.L0 e m = match exF LP post_first.B0 (LEnv.keep e [0, 5, 6, 15, 16]) m with | some (.normal, e', m') => exF LP post_first.L0 (LEnv.keep e' [0, 5, 6, 15, 16]) (trim m.length (envVals (LEnv.keep e' [0, 5, 6, 15, 16])) m') | r => r := exF_loop _ _ _ _ _
theorem post_Apart_1.L0_eq (e : LEnv) (m : LMem) : exF LP post_Apart_1.L0 e m = match exF LP post_Apart_1.B0 (LEnv.keep e [1, 2, 3, 4, 8, 9]) m with | some (.normal, e', m') => exF LP post_Apart_1.L0 (LEnv.keep e' [1, 2, 3, 4, 8, 9]) m' | r => r := exF_loop _ _ _ _ _
theorem slices_Min_int_int.L0_eq (e : LEnv) (m : LMem) : exF LP slices_Min_int_int.L0 e m = match exF LP slices_Min_int_int.B0 (LEnv.keep e [0, 3, 4]) m with | some (.normal, e', m') => exF LP slices_Min_int_int.L0 (LEnv.keep e' [0, 3, 4]) m' | r => r := exF_loop _ _ _ _ _
theorem slices_Max_int_int.L0_eq (e : LEnv) (m : LMem) : exF LP slices_Max_int_int.L0 e m = match exF LP slices_Max_int_int.B0 (LEnv.keep e [0, 3, 4]) m with | some (.normal, e', m') => exF LP slices_Max_int_int.L0 (LEnv.keep e' [0, 3, 4]) m' | r => r := exF_loop _ _ _ _ _
theorem post_asked.L0_eq (e : LEnv) (m : LMem) : exF LP post_asked.L0 e m = match exF LP post_asked.B0 (LEnv.keep e [0, 1, 7, 8, 20, 21]) m with | some (.normal, e', m') => exF LP post_asked.L0 (LEnv.keep e' [0, 1, 7, 8, 20, 21]) (trim m.length (envVals (LEnv.keep e' [0, 1, 7, 8, 20, 21])) m') | r => r := exF_loop _ _ _ _ _
theorem slices_IndexFunc_uint_uint.L0_eq (e : LEnv) (m : LMem) : exF LP slices_IndexFunc_uint_uint.L0 e m = match exF LP slices_IndexFunc_uint_uint.B0 (LEnv.keep e [0, 1, 7, 8]) m with | some (.normal, e', m') => exF LP slices_IndexFunc_uint_uint.L0 (LEnv.keep e' [0, 1, 7, 8]) m' | r => r := exF_loop _ _ _ _ _
theorem post_rating_int_rate.L0_eq (e : LEnv) (m : LMem) : exF LP post_rating_int_rate.L0 e m = match exF LP post_rating_int_rate.B0 (LEnv.keep e [0, 1, 4, 5, 16, 17]) m with | some (.normal, e', m') => exF LP post_rating_int_rate.L0 (LEnv.keep e' [0, 1, 4, 5, 16, 17]) (trim m.length (envVals (LEnv.keep e' [0, 1, 4, 5, 16, 17])) m') | r => r := exF_loop _ _ _ _ _
theorem post_rating_int_rate.L1_eq (e : LEnv) (m : LMem) : exF LP post_rating_int_rate.L1 e m = match exF LP post_rating_int_rate.B1 (LEnv.keep e [0, 1, 4, 5, 81, 82]) m with | some (.normal, e', m') => exF LP post_rating_int_rate.L1 (LEnv.keep e' [0, 1, 4, 5, 81, 82]) (trim m.length (envVals (LEnv.keep e' [0, 1, 4, 5, 81, 82])) m') | r => r := exF_loop _ _ _ _ _
theorem post_rating_post_few_rate.L0_eq (e : LEnv) (m : LMem) : exF LP post_rating_post_few_rate.L0 e m = match exF LP post_rating_post_few_rate.B0 (LEnv.keep e [0, 1, 4, 5, 16, 17]) m with | some (.normal, e', m') => exF LP post_rating_post_few_rate.L0 (LEnv.keep e' [0, 1, 4, 5, 16, 17]) (trim m.length (envVals (LEnv.keep e' [0, 1, 4, 5, 16, 17])) m') | r => r := exF_loop _ _ _ _ _
theorem post_rating_post_few_rate.L1_eq (e : LEnv) (m : LMem) : exF LP post_rating_post_few_rate.L1 e m = match exF LP post_rating_post_few_rate.B1 (LEnv.keep e [0, 1, 4, 5, 81, 82]) m with | some (.normal, e', m') => exF LP post_rating_post_few_rate.L1 (LEnv.keep e' [0, 1, 4, 5, 81, 82]) (trim m.length (envVals (LEnv.keep e' [0, 1, 4, 5, 81, 82])) m') | r => r := exF_loop _ _ _ _ _
theorem progL : ProgL LP C := by
  intro f lf h
  unfold LP at h
  split at h
  · cases h; exact lok_law12_PostMore
  · cases h; exact lok_law12_works
  · cases h; exact lok_post_Hand
  · cases h; exact lok_law12_same
  · cases h; exact lok_post_Check
  · cases h; exact lok_post_Guards
  · cases h; exact lok_post_Proves
  · cases h; exact lok_post_Fewest
  · cases h; exact lok_post_Apart
  · cases h; exact lok_post_Cheapest
  · cases h; exact lok_post_Count
  · cases h; exact lok_post_Ways
  · cases h; exact lok_post_Always
  · cases h; exact lok_post_Never
  · cases h; exact lok_law12_C
  · cases h; exact lok_law12_A
  · cases h; exact lok_law12_B
  · cases h; exact lok_law12_list
  · cases h; exact lok_law12_Coast_made
  · cases h; exact lok_slices_Clone_int_int
  · cases h; exact lok_law12_PostMore_1
  · cases h; exact lok_post_members
  · cases h; exact lok_post_hands
  · cases h; exact lok_post_listed
  · cases h; exact lok_slices_ContainsFunc_uint_uint
  · cases h; exact lok_post_Guards_1
  · cases h; exact lok_post_first
  · cases h; exact lok_post_same
  · cases h; exact lok_post_Apart_1
  · cases h; exact lok_slices_Min_int_int
  · cases h; exact lok_slices_Max_int_int
  · cases h; exact lok_post_Cheapest_1
  · cases h; exact lok_post_Count_1
  · cases h; exact lok_post_Count_2
  · cases h; exact lok_post_rating_int_whole
  · cases h; exact lok_post_Ways_1
  · cases h; exact lok_post_Ways_2
  · cases h; exact lok_post_Ways_3
  · cases h; exact lok_post_rating_post_few_whole
  · cases h; exact lok_post_asked
  · cases h; exact lok_post_Always_1
  · cases h; exact lok_post_Never_1
  · cases h; exact lok_slices_IndexFunc_uint_uint
  · cases h; exact lok_post_priced
  · cases h; exact lok_post_rating_int_rate
  · cases h; exact lok_post_rating_post_few_rate
  · cases h; exact lok_post_priced_1
  · cases h; exact lok_post_priced_2
  · cases h
end Go.Am.Post

