/- The program's functions as the list machine has them: they are those of the abstract machine. -/
import Derived.Test.YtcckhkcchpfdoaaShareL0
import Derived.Test.YtcckhkcchpfdoaaShareF
set_option maxRecDepth 100000
namespace Go.Am.Share
open Go.Am
def LP : LProg := fun f => match f with
  | 15 => some law07_ShareNamed
  | 18 => some law07_works
  | 19 => some share_Worth
  | 21 => some share_Envy
  | 23 => some share_Fair
  | 25 => some law07_lists
  | 26 => some law07_pairs
  | 27 => some share_Check
  | 29 => some share_Why
  | 31 => some share_Proves
  | 33 => some share_Turns
  | 35 => some share_Rings
  | 37 => some law07_same
  | 38 => some share_Free
  | 40 => some share_Count
  | 42 => some share_Most
  | 44 => some share_Better
  | 46 => some law07_Heap_made
  | 47 => some slices_Repeat_int_int
  | 51 => some law07_list
  | 52 => some slices_Contains_int_int
  | 53 => some slices_Index_int_int
  | 59 => some slices_Clone_int_int
  | 62 => some law07_V
  | 63 => some law07_W
  | 66 => some law07_proper
  | 67 => some slices_Reverse_int_int
  | 69 => some law07_X
  | 70 => some share_opened
  | 71 => some share_division_share
  | 74 => some share_division_pairs
  | 77 => some share_some_int
  | 78 => some share_Check_1
  | 79 => some share_within
  | 81 => some share_Proves_1
  | 82 => some share_division_finders
  | 83 => some share_division_envy
  | 84 => some share_empty
  | 86 => some share_division_calm
  | 87 => some share_division_turn
  | 90 => some share_each
  | 91 => some share_Free_1
  | 92 => some share_division_fair
  | 94 => some share_Count_1
  | 95 => some share_Most_1
  | 96 => some share_division_own
  | 99 => some share_Better_1
  | 101 => some math_bits_Mul
  | 103 => some slices_ContainsFunc_int_int
  | 104 => some law07_proper_1
  | 105 => some share_opened_1
  | 106 => some share_division_enemy
  | 108 => some share_each_1
  | 109 => some math_bits_Mul32
  | 110 => some math_bits_Mul64
  | 111 => some slices_IndexFunc_int_int
  | _ => none
def LfOk (i : Nat) (lf : LFunc) : Prop := ∃ af,C i = some af ∧ af.results = lf.results ∧ af.body = lf.body.erase ∧ lf.body.good = true
theorem lp_law07_ShareNamed : LP n_law07_ShareNamed = some law07_ShareNamed := by kernel_rfl
theorem lok_law07_ShareNamed : LfOk 15 law07_ShareNamed := ⟨F15,by kernel_rfl,by kernel_rfl,by kernel_rfl,by kernel_rfl⟩
theorem lp_law07_works : LP n_law07_works = some law07_works := by kernel_rfl
theorem lok_law07_works : LfOk 18 law07_works := ⟨F18,by kernel_rfl,by kernel_rfl,by kernel_rfl,by kernel_rfl⟩
theorem lok_share_Worth : LfOk 19 share_Worth := ⟨F19,by kernel_rfl,by kernel_rfl,by kernel_rfl,by kernel_rfl⟩
theorem lok_share_Envy : LfOk 21 share_Envy := ⟨F21,by kernel_rfl,by kernel_rfl,by kernel_rfl,by kernel_rfl⟩
theorem lp_share_Fair : LP n_share_Fair = some share_Fair := by kernel_rfl
theorem lok_share_Fair : LfOk 23 share_Fair := ⟨F23,by kernel_rfl,by kernel_rfl,by kernel_rfl,by kernel_rfl⟩
theorem lok_law07_lists : LfOk 25 law07_lists := ⟨F25,by kernel_rfl,by kernel_rfl,by kernel_rfl,by kernel_rfl⟩
theorem lok_law07_pairs : LfOk 26 law07_pairs := ⟨F26,by kernel_rfl,by kernel_rfl,by kernel_rfl,by kernel_rfl⟩
theorem lp_share_Check : LP n_share_Check = some share_Check := by kernel_rfl
theorem lok_share_Check : LfOk 27 share_Check := ⟨F27,by kernel_rfl,by kernel_rfl,by kernel_rfl,by kernel_rfl⟩
theorem lok_share_Why : LfOk 29 share_Why := ⟨F29,by kernel_rfl,by kernel_rfl,by kernel_rfl,by kernel_rfl⟩
theorem lok_share_Proves : LfOk 31 share_Proves := ⟨F31,by kernel_rfl,by kernel_rfl,by kernel_rfl,by kernel_rfl⟩
theorem lok_share_Turns : LfOk 33 share_Turns := ⟨F33,by kernel_rfl,by kernel_rfl,by kernel_rfl,by kernel_rfl⟩
theorem lok_share_Rings : LfOk 35 share_Rings := ⟨F35,by kernel_rfl,by kernel_rfl,by kernel_rfl,by kernel_rfl⟩
theorem lok_law07_same : LfOk 37 law07_same := ⟨F37,by kernel_rfl,by kernel_rfl,by kernel_rfl,by kernel_rfl⟩
theorem lp_share_Free : LP n_share_Free = some share_Free := by kernel_rfl
theorem lok_share_Free : LfOk 38 share_Free := ⟨F38,by kernel_rfl,by kernel_rfl,by kernel_rfl,by kernel_rfl⟩
theorem lp_share_Count : LP n_share_Count = some share_Count := by kernel_rfl
theorem lok_share_Count : LfOk 40 share_Count := ⟨F40,by kernel_rfl,by kernel_rfl,by kernel_rfl,by kernel_rfl⟩
theorem lok_share_Most : LfOk 42 share_Most := ⟨F42,by kernel_rfl,by kernel_rfl,by kernel_rfl,by kernel_rfl⟩
theorem lok_share_Better : LfOk 44 share_Better := ⟨F44,by kernel_rfl,by kernel_rfl,by kernel_rfl,by kernel_rfl⟩
theorem lp_law07_Heap_made : LP n_law07_Heap_made = some law07_Heap_made := by kernel_rfl
theorem lok_law07_Heap_made : LfOk 46 law07_Heap_made := ⟨F46,by kernel_rfl,by kernel_rfl,by kernel_rfl,by kernel_rfl⟩
theorem lp_slices_Repeat_int_int : LP n_slices_Repeat_int_int = some slices_Repeat_int_int := by kernel_rfl
theorem lok_slices_Repeat_int_int : LfOk 47 slices_Repeat_int_int := ⟨F47,by kernel_rfl,by kernel_rfl,by kernel_rfl,by kernel_rfl⟩
theorem lok_law07_list : LfOk 51 law07_list := ⟨F51,by kernel_rfl,by kernel_rfl,by kernel_rfl,by kernel_rfl⟩
theorem lok_slices_Contains_int_int : LfOk 52 slices_Contains_int_int := ⟨F52,by kernel_rfl,by kernel_rfl,by kernel_rfl,by kernel_rfl⟩
theorem lok_slices_Index_int_int : LfOk 53 slices_Index_int_int := ⟨F53,by kernel_rfl,by kernel_rfl,by kernel_rfl,by kernel_rfl⟩
theorem lp_slices_Clone_int_int : LP n_slices_Clone_int_int = some slices_Clone_int_int := by kernel_rfl
theorem lok_slices_Clone_int_int : LfOk 59 slices_Clone_int_int := ⟨F59,by kernel_rfl,by kernel_rfl,by kernel_rfl,by kernel_rfl⟩
theorem lok_law07_V : LfOk 62 law07_V := ⟨F62,by kernel_rfl,by kernel_rfl,by kernel_rfl,by kernel_rfl⟩
theorem lok_law07_W : LfOk 63 law07_W := ⟨F63,by kernel_rfl,by kernel_rfl,by kernel_rfl,by kernel_rfl⟩
theorem lp_law07_proper : LP n_law07_proper = some law07_proper := by kernel_rfl
theorem lok_law07_proper : LfOk 66 law07_proper := ⟨F66,by kernel_rfl,by kernel_rfl,by kernel_rfl,by kernel_rfl⟩
theorem lp_slices_Reverse_int_int : LP n_slices_Reverse_int_int = some slices_Reverse_int_int := by kernel_rfl
theorem lok_slices_Reverse_int_int : LfOk 67 slices_Reverse_int_int := ⟨F67,by kernel_rfl,by kernel_rfl,by kernel_rfl,by kernel_rfl⟩
theorem lok_law07_X : LfOk 69 law07_X := ⟨F69,by kernel_rfl,by kernel_rfl,by kernel_rfl,by kernel_rfl⟩
theorem lp_share_opened : LP n_share_opened = some share_opened := by kernel_rfl
theorem lok_share_opened : LfOk 70 share_opened := ⟨F70,by kernel_rfl,by kernel_rfl,by kernel_rfl,by kernel_rfl⟩
theorem lp_share_division_share : LP n_share_division_share = some share_division_share := by kernel_rfl
theorem lok_share_division_share : LfOk 71 share_division_share := ⟨F71,by kernel_rfl,by kernel_rfl,by kernel_rfl,by kernel_rfl⟩
theorem lp_share_division_pairs : LP n_share_division_pairs = some share_division_pairs := by kernel_rfl
theorem lok_share_division_pairs : LfOk 74 share_division_pairs := ⟨F74,by kernel_rfl,by kernel_rfl,by kernel_rfl,by kernel_rfl⟩
theorem lp_share_some_int : LP n_share_some_int = some share_some_int := by kernel_rfl
theorem lok_share_some_int : LfOk 77 share_some_int := ⟨F77,by kernel_rfl,by kernel_rfl,by kernel_rfl,by kernel_rfl⟩
theorem lp_share_Check_1 : LP n_share_Check_1 = some share_Check_1 := by kernel_rfl
theorem lok_share_Check_1 : LfOk 78 share_Check_1 := ⟨F78,by kernel_rfl,by kernel_rfl,by kernel_rfl,by kernel_rfl⟩
theorem lp_share_within : LP n_share_within = some share_within := by kernel_rfl
theorem lok_share_within : LfOk 79 share_within := ⟨F79,by kernel_rfl,by kernel_rfl,by kernel_rfl,by kernel_rfl⟩
theorem lok_share_Proves_1 : LfOk 81 share_Proves_1 := ⟨F81,by kernel_rfl,by kernel_rfl,by kernel_rfl,by kernel_rfl⟩
theorem lok_share_division_finders : LfOk 82 share_division_finders := ⟨F82,by kernel_rfl,by kernel_rfl,by kernel_rfl,by kernel_rfl⟩
theorem lp_share_division_envy : LP n_share_division_envy = some share_division_envy := by kernel_rfl
theorem lok_share_division_envy : LfOk 83 share_division_envy := ⟨F83,by kernel_rfl,by kernel_rfl,by kernel_rfl,by kernel_rfl⟩
theorem lp_share_empty : LP n_share_empty = some share_empty := by kernel_rfl
theorem lok_share_empty : LfOk 84 share_empty := ⟨F84,by kernel_rfl,by kernel_rfl,by kernel_rfl,by kernel_rfl⟩
theorem lok_share_division_calm : LfOk 86 share_division_calm := ⟨F86,by kernel_rfl,by kernel_rfl,by kernel_rfl,by kernel_rfl⟩
theorem lok_share_division_turn : LfOk 87 share_division_turn := ⟨F87,by kernel_rfl,by kernel_rfl,by kernel_rfl,by kernel_rfl⟩
theorem lp_share_each : LP n_share_each = some share_each := by kernel_rfl
theorem lok_share_each : LfOk 90 share_each := ⟨F90,by kernel_rfl,by kernel_rfl,by kernel_rfl,by kernel_rfl⟩
theorem lp_share_Free_1 : LP n_share_Free_1 = some share_Free_1 := by kernel_rfl
theorem lok_share_Free_1 : LfOk 91 share_Free_1 := ⟨F91,by kernel_rfl,by kernel_rfl,by kernel_rfl,by kernel_rfl⟩
theorem lp_share_division_fair : LP n_share_division_fair = some share_division_fair := by kernel_rfl
theorem lok_share_division_fair : LfOk 92 share_division_fair := ⟨F92,by kernel_rfl,by kernel_rfl,by kernel_rfl,by kernel_rfl⟩
theorem lp_share_Count_1 : LP n_share_Count_1 = some share_Count_1 := by kernel_rfl
theorem lok_share_Count_1 : LfOk 94 share_Count_1 := ⟨F94,by kernel_rfl,by kernel_rfl,by kernel_rfl,by kernel_rfl⟩
theorem lok_share_Most_1 : LfOk 95 share_Most_1 := ⟨F95,by kernel_rfl,by kernel_rfl,by kernel_rfl,by kernel_rfl⟩
theorem lok_share_division_own : LfOk 96 share_division_own := ⟨F96,by kernel_rfl,by kernel_rfl,by kernel_rfl,by kernel_rfl⟩
theorem lok_share_Better_1 : LfOk 99 share_Better_1 := ⟨F99,by kernel_rfl,by kernel_rfl,by kernel_rfl,by kernel_rfl⟩
theorem lok_math_bits_Mul : LfOk 101 math_bits_Mul := ⟨F101,by kernel_rfl,by kernel_rfl,by kernel_rfl,by kernel_rfl⟩
theorem lp_slices_ContainsFunc_int_int : LP n_slices_ContainsFunc_int_int = some slices_ContainsFunc_int_int := by kernel_rfl
theorem lok_slices_ContainsFunc_int_int : LfOk 103 slices_ContainsFunc_int_int := ⟨F103,by kernel_rfl,by kernel_rfl,by kernel_rfl,by kernel_rfl⟩
theorem lp_law07_proper_1 : LP n_law07_proper_1 = some law07_proper_1 := by kernel_rfl
theorem lok_law07_proper_1 : LfOk 104 law07_proper_1 := ⟨F104,by kernel_rfl,by kernel_rfl,by kernel_rfl,by kernel_rfl⟩
theorem lp_share_opened_1 : LP n_share_opened_1 = some share_opened_1 := by kernel_rfl
theorem lok_share_opened_1 : LfOk 105 share_opened_1 := ⟨F105,by kernel_rfl,by kernel_rfl,by kernel_rfl,by kernel_rfl⟩
theorem lp_share_division_enemy : LP n_share_division_enemy = some share_division_enemy := by kernel_rfl
theorem lok_share_division_enemy : LfOk 106 share_division_enemy := ⟨F106,by kernel_rfl,by kernel_rfl,by kernel_rfl,by kernel_rfl⟩
theorem lp_share_each_1 : LP n_share_each_1 = some share_each_1 := by kernel_rfl
theorem lok_share_each_1 : LfOk 108 share_each_1 := ⟨F108,by kernel_rfl,by kernel_rfl,by kernel_rfl,by kernel_rfl⟩
theorem lok_math_bits_Mul32 : LfOk 109 math_bits_Mul32 := ⟨F109,by kernel_rfl,by kernel_rfl,by kernel_rfl,by kernel_rfl⟩
theorem lok_math_bits_Mul64 : LfOk 110 math_bits_Mul64 := ⟨F110,by kernel_rfl,by kernel_rfl,by kernel_rfl,by kernel_rfl⟩
theorem lp_slices_IndexFunc_int_int : LP n_slices_IndexFunc_int_int = some slices_IndexFunc_int_int := by kernel_rfl
theorem lok_slices_IndexFunc_int_int : LfOk 111 slices_IndexFunc_int_int := ⟨F111,by kernel_rfl,by kernel_rfl,by kernel_rfl,by kernel_rfl⟩
theorem law07_ShareNamed.L0_eq (e : LEnv) (m : LMem) : exF LP law07_ShareNamed.L0 e m = match exF LP law07_ShareNamed.B0 (LEnv.keep e [1,5,6,7,22,23]) m with | some (.normal,e',m') => exF LP law07_ShareNamed.L0 (LEnv.keep e' [1,5,6,7,22,23]) m' | r => r := exF_loop _ _ _ _ _
theorem law07_ShareNamed.L1_eq (e : LEnv) (m : LMem) : exF LP law07_ShareNamed.L1 e m = match exF LP law07_ShareNamed.B1 (LEnv.keep e [7,15,111,112]) m with | some (.normal,e',m') => exF LP law07_ShareNamed.L1 (LEnv.keep e' [7,15,111,112]) m' | r => r := exF_loop _ _ _ _ _
theorem share_Worth.L0_eq (e : LEnv) (m : LMem) : exF LP share_Worth.L0 e m = match exF LP share_Worth.B0 (LEnv.keep e [6,8,9,10,25,26,31,32]) m with | some (.normal,e',m') => exF LP share_Worth.L0 (LEnv.keep e' [6,8,9,10,25,26,31,32]) m' | r => r := exF_loop _ _ _ _ _
theorem share_Worth.L1_eq (e : LEnv) (m : LMem) : exF LP share_Worth.L1 e m = match exF LP share_Worth.B1 (LEnv.keep e [6,8,25,26]) m with | some (.normal,e',m') => exF LP share_Worth.L1 (LEnv.keep e' [6,8,25,26]) m' | r => r := exF_loop _ _ _ _ _
theorem law07_lists.L0_eq (e : LEnv) (m : LMem) : exF LP law07_lists.L0 e m = match exF LP law07_lists.B0 (LEnv.keep e [0,1,5]) m with | some (.normal,e',m') => exF LP law07_lists.L0 (LEnv.keep e' [0,1,5]) m' | r => r := exF_loop _ _ _ _ _
theorem law07_pairs.L0_eq (e : LEnv) (m : LMem) : exF LP law07_pairs.L0 e m = match exF LP law07_pairs.B0 (LEnv.keep e [0,1,5]) m with | some (.normal,e',m') => exF LP law07_pairs.L0 (LEnv.keep e' [0,1,5]) m' | r => r := exF_loop _ _ _ _ _
theorem share_Check.L0_eq (e : LEnv) (m : LMem) : exF LP share_Check.L0 e m = match exF LP share_Check.B0 (LEnv.keep e [0,20,21,22]) m with | some (.normal,e',m') => exF LP share_Check.L0 (LEnv.keep e' [0,20,21,22]) m' | r => r := exF_loop _ _ _ _ _
theorem share_Turns.L0_eq (e : LEnv) (m : LMem) : exF LP share_Turns.L0 e m = match exF LP share_Turns.B0 (LEnv.keep e [0,1,28,29,30]) m with | some (.normal,e',m') => exF LP share_Turns.L0 (LEnv.keep e' [0,1,28,29,30]) m' | r => r := exF_loop _ _ _ _ _
theorem share_Turns.L1_eq (e : LEnv) (m : LMem) : exF LP share_Turns.L1 e m = match exF LP share_Turns.B1 (LEnv.keep e [0,1,9,11,12,13,53,54,67,68,69]) m with | some (.normal,e',m') => exF LP share_Turns.L1 (LEnv.keep e' [0,1,9,11,12,13,53,54,67,68,69]) m' | r => r := exF_loop _ _ _ _ _
theorem share_Rings.L0_eq (e : LEnv) (m : LMem) : exF LP share_Rings.L0 e m = match exF LP share_Rings.B0 (LEnv.keep e [5,6,7,17,18]) m with | some (.normal,e',m') => exF LP share_Rings.L0 (LEnv.keep e' [5,6,7,17,18]) m' | r => r := exF_loop _ _ _ _ _
theorem share_Rings.L1_eq (e : LEnv) (m : LMem) : exF LP share_Rings.L1 e m = match exF LP share_Rings.B1 (LEnv.keep e [5,17,18]) m with | some (.normal,e',m') => exF LP share_Rings.L1 (LEnv.keep e' [5,17,18]) m' | r => r := exF_loop _ _ _ _ _
theorem law07_same.L0_eq (e : LEnv) (m : LMem) : exF LP law07_same.L0 e m = match exF LP law07_same.B0 (LEnv.keep e [0,1,5]) m with | some (.normal,e',m') => exF LP law07_same.L0 (LEnv.keep e' [0,1,5]) m' | r => r := exF_loop _ _ _ _ _
theorem law07_Heap_made.L0_eq (e : LEnv) (m : LMem) : exF LP law07_Heap_made.L0 e m = match exF LP law07_Heap_made.B0 (LEnv.keep e [3,9,10,13,29,30,31,36,37,38]) m with | some (.normal,e',m') => exF LP law07_Heap_made.L0 (LEnv.keep e' [3,9,10,13,29,30,31,36,37,38]) m' | r => r := exF_loop _ _ _ _ _
theorem law07_Heap_made.L1_eq (e : LEnv) (m : LMem) : exF LP law07_Heap_made.L1 e m = match exF LP law07_Heap_made.B1 (LEnv.keep e [3,9,10,29,30,31]) m with | some (.normal,e',m') => exF LP law07_Heap_made.L1 (LEnv.keep e' [3,9,10,29,30,31]) m' | r => r := exF_loop _ _ _ _ _
theorem slices_Repeat_int_int.L0_eq (e : LEnv) (m : LMem) : exF LP slices_Repeat_int_int.L0 e m = match exF LP slices_Repeat_int_int.B0 (LEnv.keep e [7,8]) m with | some (.normal,e',m') => exF LP slices_Repeat_int_int.L0 (LEnv.keep e' [7,8]) m' | r => r := exF_loop _ _ _ _ _
theorem slices_Index_int_int.L0_eq (e : LEnv) (m : LMem) : exF LP slices_Index_int_int.L0 e m = match exF LP slices_Index_int_int.B0 (LEnv.keep e [0,1,7,8]) m with | some (.normal,e',m') => exF LP slices_Index_int_int.L0 (LEnv.keep e' [0,1,7,8]) m' | r => r := exF_loop _ _ _ _ _
theorem slices_Reverse_int_int.L0_eq (e : LEnv) (m : LMem) : exF LP slices_Reverse_int_int.L0 e m = match exF LP slices_Reverse_int_int.B0 (LEnv.keep e [0,2,3]) m with | some (.normal,e',m') => exF LP slices_Reverse_int_int.L0 (LEnv.keep e' [0,2,3]) m' | r => r := exF_loop _ _ _ _ _
theorem share_division_share.L0_eq (e : LEnv) (m : LMem) : exF LP share_division_share.L0 e m = match exF LP share_division_share.B0 (LEnv.keep e [1,2,3,6,7,11,12,13]) m with | some (.normal,e',m') => exF LP share_division_share.L0 (LEnv.keep e' [1,2,3,6,7,11,12,13]) m' | r => r := exF_loop _ _ _ _ _
theorem share_division_pairs.L0_eq (e : LEnv) (m : LMem) : exF LP share_division_pairs.L0 e m = match exF LP share_division_pairs.B0 (LEnv.keep e [1,2,3,4,10,11,16,17]) m with | some (.normal,e',m') => exF LP share_division_pairs.L0 (LEnv.keep e' [1,2,3,4,10,11,16,17]) m' | r => r := exF_loop _ _ _ _ _
theorem share_division_pairs.L1_eq (e : LEnv) (m : LMem) : exF LP share_division_pairs.L1 e m = match exF LP share_division_pairs.B1 (LEnv.keep e [1,2,3,10,11]) m with | some (.normal,e',m') => exF LP share_division_pairs.L1 (LEnv.keep e' [1,2,3,10,11]) m' | r => r := exF_loop _ _ _ _ _
theorem share_some_int.L0_eq (e : LEnv) (m : LMem) : exF LP share_some_int.L0 e m = match exF LP share_some_int.B0 (LEnv.keep e [0,7,8,9]) m with | some (.normal,e',m') => exF LP share_some_int.L0 (LEnv.keep e' [0,7,8,9]) m' | r => r := exF_loop _ _ _ _ _
theorem share_division_calm.L0_eq (e : LEnv) (m : LMem) : exF LP share_division_calm.L0 e m = match exF LP share_division_calm.B0 (LEnv.keep e [1,6,7]) m with | some (.normal,e',m') => exF LP share_division_calm.L0 (LEnv.keep e' [1,6,7]) m' | r => r := exF_loop _ _ _ _ _
theorem share_division_turn.L0_eq (e : LEnv) (m : LMem) : exF LP share_division_turn.L0 e m = match exF LP share_division_turn.B0 (LEnv.keep e [1,2,3]) m with | some (.normal,e',m') => exF LP share_division_turn.L0 (LEnv.keep e' [1,2,3]) m' | r => r := exF_loop _ _ _ _ _
theorem share_division_turn.L1_eq (e : LEnv) (m : LMem) : exF LP share_division_turn.L1 e m = match exF LP share_division_turn.B1 (LEnv.keep e [1,5,34,35,36]) m with | some (.normal,e',m') => exF LP share_division_turn.L1 (LEnv.keep e' [1,5,34,35,36]) m' | r => r := exF_loop _ _ _ _ _
theorem share_division_fair.L0_eq (e : LEnv) (m : LMem) : exF LP share_division_fair.L0 e m = match exF LP share_division_fair.B0 (LEnv.keep e [1,6,7]) m with | some (.normal,e',m') => exF LP share_division_fair.L0 (LEnv.keep e' [1,6,7]) m' | r => r := exF_loop _ _ _ _ _
theorem share_Most_1.L0_eq (e : LEnv) (m : LMem) : exF LP share_Most_1.L0 e m = match exF LP share_Most_1.B0 (LEnv.keep e [1,2,3,4,6,7,11,12,13]) m with | some (.normal,e',m') => exF LP share_Most_1.L0 (LEnv.keep e' [1,2,3,4,6,7,11,12,13]) m' | r => r := exF_loop _ _ _ _ _
theorem share_division_own.L0_eq (e : LEnv) (m : LMem) : exF LP share_division_own.L0 e m = match exF LP share_division_own.B0 (LEnv.keep e [1,3,9,10]) m with | some (.normal,e',m') => exF LP share_division_own.L0 (LEnv.keep e' [1,3,9,10]) m' | r => r := exF_loop _ _ _ _ _
theorem share_Better_1.L0_eq (e : LEnv) (m : LMem) : exF LP share_Better_1.L0 e m = match exF LP share_Better_1.B0 (LEnv.keep e [1,2,3,4,6,10,11,12]) m with | some (.normal,e',m') => exF LP share_Better_1.L0 (LEnv.keep e' [1,2,3,4,6,10,11,12]) m' | r => r := exF_loop _ _ _ _ _
theorem share_division_enemy.L0_eq (e : LEnv) (m : LMem) : exF LP share_division_enemy.L0 e m = match exF LP share_division_enemy.B0 (LEnv.keep e [1,2,10,11]) m with | some (.normal,e',m') => exF LP share_division_enemy.L0 (LEnv.keep e' [1,2,10,11]) m' | r => r := exF_loop _ _ _ _ _
theorem share_each_1.L0_eq (e : LEnv) (m : LMem) : exF LP share_each_1.L0 e m = match exF LP share_each_1.B0 (LEnv.keep e [0,1,3,17,18]) m with | some (.normal,e',m') => exF LP share_each_1.L0 (LEnv.keep e' [0,1,3,17,18]) m' | r => r := exF_loop _ _ _ _ _
theorem slices_IndexFunc_int_int.L0_eq (e : LEnv) (m : LMem) : exF LP slices_IndexFunc_int_int.L0 e m = match exF LP slices_IndexFunc_int_int.B0 (LEnv.keep e [0,1,7,8]) m with | some (.normal,e',m') => exF LP slices_IndexFunc_int_int.L0 (LEnv.keep e' [0,1,7,8]) m' | r => r := exF_loop _ _ _ _ _
theorem progL : ProgL LP C := by
  intro f lf h
  unfold LP at h
  split at h
  · cases h; exact lok_law07_ShareNamed
  · cases h; exact lok_law07_works
  · cases h; exact lok_share_Worth
  · cases h; exact lok_share_Envy
  · cases h; exact lok_share_Fair
  · cases h; exact lok_law07_lists
  · cases h; exact lok_law07_pairs
  · cases h; exact lok_share_Check
  · cases h; exact lok_share_Why
  · cases h; exact lok_share_Proves
  · cases h; exact lok_share_Turns
  · cases h; exact lok_share_Rings
  · cases h; exact lok_law07_same
  · cases h; exact lok_share_Free
  · cases h; exact lok_share_Count
  · cases h; exact lok_share_Most
  · cases h; exact lok_share_Better
  · cases h; exact lok_law07_Heap_made
  · cases h; exact lok_slices_Repeat_int_int
  · cases h; exact lok_law07_list
  · cases h; exact lok_slices_Contains_int_int
  · cases h; exact lok_slices_Index_int_int
  · cases h; exact lok_slices_Clone_int_int
  · cases h; exact lok_law07_V
  · cases h; exact lok_law07_W
  · cases h; exact lok_law07_proper
  · cases h; exact lok_slices_Reverse_int_int
  · cases h; exact lok_law07_X
  · cases h; exact lok_share_opened
  · cases h; exact lok_share_division_share
  · cases h; exact lok_share_division_pairs
  · cases h; exact lok_share_some_int
  · cases h; exact lok_share_Check_1
  · cases h; exact lok_share_within
  · cases h; exact lok_share_Proves_1
  · cases h; exact lok_share_division_finders
  · cases h; exact lok_share_division_envy
  · cases h; exact lok_share_empty
  · cases h; exact lok_share_division_calm
  · cases h; exact lok_share_division_turn
  · cases h; exact lok_share_each
  · cases h; exact lok_share_Free_1
  · cases h; exact lok_share_division_fair
  · cases h; exact lok_share_Count_1
  · cases h; exact lok_share_Most_1
  · cases h; exact lok_share_division_own
  · cases h; exact lok_share_Better_1
  · cases h; exact lok_math_bits_Mul
  · cases h; exact lok_slices_ContainsFunc_int_int
  · cases h; exact lok_law07_proper_1
  · cases h; exact lok_share_opened_1
  · cases h; exact lok_share_division_enemy
  · cases h; exact lok_share_each_1
  · cases h; exact lok_math_bits_Mul32
  · cases h; exact lok_math_bits_Mul64
  · cases h; exact lok_slices_IndexFunc_int_int
  · cases h
end Go.Am.Share
