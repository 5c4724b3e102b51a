/- The program's functions as the list machine has them: they are those of the abstract machine. -/
import Derived.Test.YtgogknjedpmcgaaWashL0
import Derived.Test.YtgogknjedpmcgaaWashF
set_option maxRecDepth 100000
namespace Go.Am.Wash
open Go.Am
def LP : LProg := fun f => match f with
  | 5 => some law13_WashHalves
  | 15 => some law13_works
  | 16 => some wash_After
  | 18 => some wash_Rings
  | 20 => some law13_same
  | 21 => some law13_lists
  | 22 => some wash_Check
  | 23 => some ref13_Check
  | 24 => some wash_Back
  | 26 => some wash_When
  | 28 => some wash_Then
  | 30 => some wash_Named
  | 32 => some wash_Alike
  | 34 => some wash_Exchange
  | 36 => some wash_Odd
  | 38 => some wash_Why
  | 39 => some ref13_Why
  | 40 => some wash_Proves
  | 41 => some ref13_Proves
  | 42 => some wash_Half
  | 43 => some ref13_Half
  | 44 => some wash_Halves
  | 45 => some ref13_Halves
  | 46 => some wash_Friends
  | 51 => some law13_A
  | 52 => some law13_B
  | 53 => some law13_C
  | 54 => some law13_list
  | 65 => some wash_within
  | 66 => some wash_rings
  | 67 => some ref13_in
  | 70 => some ref13_then
  | 71 => some ref13_rings
  | 72 => some ref13_has
  | 73 => some wash_kindOf
  | 74 => some ref13_ring
  | 75 => some wash_both
  | 77 => some slices_Clone_int_int
  | 78 => some ref13_many
  | 79 => some ref13_same
  | 80 => some slices_Repeat_int_int
  | 81 => some wash_Half_1
  | 82 => some wash_follow
  | 83 => some ref13_halves
  | 84 => some wash_mates
  | 85 => some ref13_all
  | 87 => some slices_Contains_int_int
  | 90 => some math_bits_Mul
  | 91 => some slices_Index_int_int
  | 93 => some math_bits_Mul32
  | 94 => some math_bits_Mul64
  | _ => none
def LfOk (i : Nat) (lf : LFunc) : Prop := ∃ af, C i = some af ∧ af.results = lf.results ∧ af.body = lf.body.erase ∧ lf.body.good = true
theorem lp_law13_WashHalves : LP n_law13_WashHalves = some law13_WashHalves := by kernel_rfl
theorem lok_law13_WashHalves : LfOk 5 law13_WashHalves := ⟨F5, by kernel_rfl, by kernel_rfl, by kernel_rfl, by kernel_rfl⟩
theorem lp_law13_works : LP n_law13_works = some law13_works := by kernel_rfl
theorem lok_law13_works : LfOk 15 law13_works := ⟨F15, by kernel_rfl, by kernel_rfl, by kernel_rfl, by kernel_rfl⟩
theorem lp_wash_After : LP n_wash_After = some wash_After := by kernel_rfl
theorem lok_wash_After : LfOk 16 wash_After := ⟨F16, by kernel_rfl, by kernel_rfl, by kernel_rfl, by kernel_rfl⟩
theorem lp_wash_Rings : LP n_wash_Rings = some wash_Rings := by kernel_rfl
theorem lok_wash_Rings : LfOk 18 wash_Rings := ⟨F18, by kernel_rfl, by kernel_rfl, by kernel_rfl, by kernel_rfl⟩
theorem lp_law13_same : LP n_law13_same = some law13_same := by kernel_rfl
theorem lok_law13_same : LfOk 20 law13_same := ⟨F20, by kernel_rfl, by kernel_rfl, by kernel_rfl, by kernel_rfl⟩
theorem lp_law13_lists : LP n_law13_lists = some law13_lists := by kernel_rfl
theorem lok_law13_lists : LfOk 21 law13_lists := ⟨F21, by kernel_rfl, by kernel_rfl, by kernel_rfl, by kernel_rfl⟩
theorem lp_wash_Check : LP n_wash_Check = some wash_Check := by kernel_rfl
theorem lok_wash_Check : LfOk 22 wash_Check := ⟨F22, by kernel_rfl, by kernel_rfl, by kernel_rfl, by kernel_rfl⟩
theorem lp_ref13_Check : LP n_ref13_Check = some ref13_Check := by kernel_rfl
theorem lok_ref13_Check : LfOk 23 ref13_Check := ⟨F23, by kernel_rfl, by kernel_rfl, by kernel_rfl, by kernel_rfl⟩
theorem lp_wash_Back : LP n_wash_Back = some wash_Back := by kernel_rfl
theorem lok_wash_Back : LfOk 24 wash_Back := ⟨F24, by kernel_rfl, by kernel_rfl, by kernel_rfl, by kernel_rfl⟩
theorem lp_wash_When : LP n_wash_When = some wash_When := by kernel_rfl
theorem lok_wash_When : LfOk 26 wash_When := ⟨F26, by kernel_rfl, by kernel_rfl, by kernel_rfl, by kernel_rfl⟩
theorem lp_wash_Then : LP n_wash_Then = some wash_Then := by kernel_rfl
theorem lok_wash_Then : LfOk 28 wash_Then := ⟨F28, by kernel_rfl, by kernel_rfl, by kernel_rfl, by kernel_rfl⟩
theorem lp_wash_Named : LP n_wash_Named = some wash_Named := by kernel_rfl
theorem lok_wash_Named : LfOk 30 wash_Named := ⟨F30, by kernel_rfl, by kernel_rfl, by kernel_rfl, by kernel_rfl⟩
theorem lp_wash_Alike : LP n_wash_Alike = some wash_Alike := by kernel_rfl
theorem lok_wash_Alike : LfOk 32 wash_Alike := ⟨F32, by kernel_rfl, by kernel_rfl, by kernel_rfl, by kernel_rfl⟩
theorem lp_wash_Exchange : LP n_wash_Exchange = some wash_Exchange := by kernel_rfl
theorem lok_wash_Exchange : LfOk 34 wash_Exchange := ⟨F34, by kernel_rfl, by kernel_rfl, by kernel_rfl, by kernel_rfl⟩
theorem lp_wash_Odd : LP n_wash_Odd = some wash_Odd := by kernel_rfl
theorem lok_wash_Odd : LfOk 36 wash_Odd := ⟨F36, by kernel_rfl, by kernel_rfl, by kernel_rfl, by kernel_rfl⟩
theorem lp_wash_Why : LP n_wash_Why = some wash_Why := by kernel_rfl
theorem lok_wash_Why : LfOk 38 wash_Why := ⟨F38, by kernel_rfl, by kernel_rfl, by kernel_rfl, by kernel_rfl⟩
theorem lp_ref13_Why : LP n_ref13_Why = some ref13_Why := by kernel_rfl
theorem lok_ref13_Why : LfOk 39 ref13_Why := ⟨F39, by kernel_rfl, by kernel_rfl, by kernel_rfl, by kernel_rfl⟩
theorem lp_wash_Proves : LP n_wash_Proves = some wash_Proves := by kernel_rfl
theorem lok_wash_Proves : LfOk 40 wash_Proves := ⟨F40, by kernel_rfl, by kernel_rfl, by kernel_rfl, by kernel_rfl⟩
theorem lp_ref13_Proves : LP n_ref13_Proves = some ref13_Proves := by kernel_rfl
theorem lok_ref13_Proves : LfOk 41 ref13_Proves := ⟨F41, by kernel_rfl, by kernel_rfl, by kernel_rfl, by kernel_rfl⟩
theorem lp_wash_Half : LP n_wash_Half = some wash_Half := by kernel_rfl
theorem lok_wash_Half : LfOk 42 wash_Half := ⟨F42, by kernel_rfl, by kernel_rfl, by kernel_rfl, by kernel_rfl⟩
theorem lp_ref13_Half : LP n_ref13_Half = some ref13_Half := by kernel_rfl
theorem lok_ref13_Half : LfOk 43 ref13_Half := ⟨F43, by kernel_rfl, by kernel_rfl, by kernel_rfl, by kernel_rfl⟩
theorem lp_wash_Halves : LP n_wash_Halves = some wash_Halves := by kernel_rfl
theorem lok_wash_Halves : LfOk 44 wash_Halves := ⟨F44, by kernel_rfl, by kernel_rfl, by kernel_rfl, by kernel_rfl⟩
theorem lp_ref13_Halves : LP n_ref13_Halves = some ref13_Halves := by kernel_rfl
theorem lok_ref13_Halves : LfOk 45 ref13_Halves := ⟨F45, by kernel_rfl, by kernel_rfl, by kernel_rfl, by kernel_rfl⟩
theorem lp_wash_Friends : LP n_wash_Friends = some wash_Friends := by kernel_rfl
theorem lok_wash_Friends : LfOk 46 wash_Friends := ⟨F46, by kernel_rfl, by kernel_rfl, by kernel_rfl, by kernel_rfl⟩
theorem lp_law13_A : LP n_law13_A = some law13_A := by kernel_rfl
theorem lok_law13_A : LfOk 51 law13_A := ⟨F51, by kernel_rfl, by kernel_rfl, by kernel_rfl, by kernel_rfl⟩
theorem lp_law13_B : LP n_law13_B = some law13_B := by kernel_rfl
theorem lok_law13_B : LfOk 52 law13_B := ⟨F52, by kernel_rfl, by kernel_rfl, by kernel_rfl, by kernel_rfl⟩
theorem lp_law13_C : LP n_law13_C = some law13_C := by kernel_rfl
theorem lok_law13_C : LfOk 53 law13_C := ⟨F53, by kernel_rfl, by kernel_rfl, by kernel_rfl, by kernel_rfl⟩
theorem lp_law13_list : LP n_law13_list = some law13_list := by kernel_rfl
theorem lok_law13_list : LfOk 54 law13_list := ⟨F54, by kernel_rfl, by kernel_rfl, by kernel_rfl, by kernel_rfl⟩
theorem lp_wash_within : LP n_wash_within = some wash_within := by kernel_rfl
theorem lok_wash_within : LfOk 65 wash_within := ⟨F65, by kernel_rfl, by kernel_rfl, by kernel_rfl, by kernel_rfl⟩
theorem lp_wash_rings : LP n_wash_rings = some wash_rings := by kernel_rfl
theorem lok_wash_rings : LfOk 66 wash_rings := ⟨F66, by kernel_rfl, by kernel_rfl, by kernel_rfl, by kernel_rfl⟩
theorem lp_ref13_in : LP n_ref13_in = some ref13_in := by kernel_rfl
theorem lok_ref13_in : LfOk 67 ref13_in := ⟨F67, by kernel_rfl, by kernel_rfl, by kernel_rfl, by kernel_rfl⟩
theorem lp_ref13_then : LP n_ref13_then = some ref13_then := by kernel_rfl
theorem lok_ref13_then : LfOk 70 ref13_then := ⟨F70, by kernel_rfl, by kernel_rfl, by kernel_rfl, by kernel_rfl⟩
theorem lp_ref13_rings : LP n_ref13_rings = some ref13_rings := by kernel_rfl
theorem lok_ref13_rings : LfOk 71 ref13_rings := ⟨F71, by kernel_rfl, by kernel_rfl, by kernel_rfl, by kernel_rfl⟩
theorem lp_ref13_has : LP n_ref13_has = some ref13_has := by kernel_rfl
theorem lok_ref13_has : LfOk 72 ref13_has := ⟨F72, by kernel_rfl, by kernel_rfl, by kernel_rfl, by kernel_rfl⟩
theorem lp_wash_kindOf : LP n_wash_kindOf = some wash_kindOf := by kernel_rfl
theorem lok_wash_kindOf : LfOk 73 wash_kindOf := ⟨F73, by kernel_rfl, by kernel_rfl, by kernel_rfl, by kernel_rfl⟩
theorem lp_ref13_ring : LP n_ref13_ring = some ref13_ring := by kernel_rfl
theorem lok_ref13_ring : LfOk 74 ref13_ring := ⟨F74, by kernel_rfl, by kernel_rfl, by kernel_rfl, by kernel_rfl⟩
theorem lok_wash_both : LfOk 75 wash_both := ⟨F75, by kernel_rfl, by kernel_rfl, by kernel_rfl, by kernel_rfl⟩
theorem lp_slices_Clone_int_int : LP n_slices_Clone_int_int = some slices_Clone_int_int := by kernel_rfl
theorem lok_slices_Clone_int_int : LfOk 77 slices_Clone_int_int := ⟨F77, by kernel_rfl, by kernel_rfl, by kernel_rfl, by kernel_rfl⟩
theorem lp_ref13_many : LP n_ref13_many = some ref13_many := by kernel_rfl
theorem lok_ref13_many : LfOk 78 ref13_many := ⟨F78, by kernel_rfl, by kernel_rfl, by kernel_rfl, by kernel_rfl⟩
theorem lp_ref13_same : LP n_ref13_same = some ref13_same := by kernel_rfl
theorem lok_ref13_same : LfOk 79 ref13_same := ⟨F79, by kernel_rfl, by kernel_rfl, by kernel_rfl, by kernel_rfl⟩
theorem lp_slices_Repeat_int_int : LP n_slices_Repeat_int_int = some slices_Repeat_int_int := by kernel_rfl
theorem lok_slices_Repeat_int_int : LfOk 80 slices_Repeat_int_int := ⟨F80, by kernel_rfl, by kernel_rfl, by kernel_rfl, by kernel_rfl⟩
theorem lp_wash_Half_1 : LP n_wash_Half_1 = some wash_Half_1 := by kernel_rfl
theorem lok_wash_Half_1 : LfOk 81 wash_Half_1 := ⟨F81, by kernel_rfl, by kernel_rfl, by kernel_rfl, by kernel_rfl⟩
theorem lp_wash_follow : LP n_wash_follow = some wash_follow := by kernel_rfl
theorem lok_wash_follow : LfOk 82 wash_follow := ⟨F82, by kernel_rfl, by kernel_rfl, by kernel_rfl, by kernel_rfl⟩
theorem lp_ref13_halves : LP n_ref13_halves = some ref13_halves := by kernel_rfl
theorem lok_ref13_halves : LfOk 83 ref13_halves := ⟨F83, by kernel_rfl, by kernel_rfl, by kernel_rfl, by kernel_rfl⟩
theorem lp_wash_mates : LP n_wash_mates = some wash_mates := by kernel_rfl
theorem lok_wash_mates : LfOk 84 wash_mates := ⟨F84, by kernel_rfl, by kernel_rfl, by kernel_rfl, by kernel_rfl⟩
theorem lp_ref13_all : LP n_ref13_all = some ref13_all := by kernel_rfl
theorem lok_ref13_all : LfOk 85 ref13_all := ⟨F85, by kernel_rfl, by kernel_rfl, by kernel_rfl, by kernel_rfl⟩
theorem lp_slices_Contains_int_int : LP n_slices_Contains_int_int = some slices_Contains_int_int := by kernel_rfl
theorem lok_slices_Contains_int_int : LfOk 87 slices_Contains_int_int := ⟨F87, by kernel_rfl, by kernel_rfl, by kernel_rfl, by kernel_rfl⟩
theorem lok_math_bits_Mul : LfOk 90 math_bits_Mul := ⟨F90, by kernel_rfl, by kernel_rfl, by kernel_rfl, by kernel_rfl⟩
theorem lp_slices_Index_int_int : LP n_slices_Index_int_int = some slices_Index_int_int := by kernel_rfl
theorem lok_slices_Index_int_int : LfOk 91 slices_Index_int_int := ⟨F91, by kernel_rfl, by kernel_rfl, by kernel_rfl, by kernel_rfl⟩
theorem lok_math_bits_Mul32 : LfOk 93 math_bits_Mul32 := ⟨F93, by kernel_rfl, by kernel_rfl, by kernel_rfl, by kernel_rfl⟩
theorem lok_math_bits_Mul64 : LfOk 94 math_bits_Mul64 := ⟨F94, by kernel_rfl, by kernel_rfl, by kernel_rfl, by kernel_rfl⟩
theorem wash_After.L0_eq (e : LEnv) (m : LMem) : exF LP wash_After.L0 e m = match exF LP wash_After.B0 (LEnv.keep e [1, 7, 9, 10, 27, 28, 29, 35, 36, 37]) m with | some (.normal, e', m') => exF LP wash_After.L0 (LEnv.keep e' [1, 7, 9, 10, 27, 28, 29, 35, 36, 37]) m' | r => r := exF_loop _ _ _ _ _
theorem wash_After.L1_eq (e : LEnv) (m : LMem) : exF LP wash_After.L1 e m = match exF LP wash_After.B1 (LEnv.keep e [1, 7, 27, 28, 29]) m with | some (.normal, e', m') => exF LP wash_After.L1 (LEnv.keep e' [1, 7, 27, 28, 29]) m' | r => r := exF_loop _ _ _ _ _
theorem law13_same.L0_eq (e : LEnv) (m : LMem) : exF LP law13_same.L0 e m = match exF LP law13_same.B0 (LEnv.keep e [0, 1, 5]) m with | some (.normal, e', m') => exF LP law13_same.L0 (LEnv.keep e' [0, 1, 5]) m' | r => r := exF_loop _ _ _ _ _
theorem law13_lists.L0_eq (e : LEnv) (m : LMem) : exF LP law13_lists.L0 e m = match exF LP law13_lists.B0 (LEnv.keep e [0, 1, 5]) m with | some (.normal, e', m') => exF LP law13_lists.L0 (LEnv.keep e' [0, 1, 5]) m' | r => r := exF_loop _ _ _ _ _
theorem wash_Check.L0_eq (e : LEnv) (m : LMem) : exF LP wash_Check.L0 e m = match exF LP wash_Check.B0 (LEnv.keep e [3, 4, 12, 13, 14]) m with | some (.normal, e', m') => exF LP wash_Check.L0 (LEnv.keep e' [3, 4, 12, 13, 14]) m' | r => r := exF_loop _ _ _ _ _
theorem ref13_Check.L0_eq (e : LEnv) (m : LMem) : exF LP ref13_Check.L0 e m = match exF LP ref13_Check.B0 (LEnv.keep e [0, 3, 4]) m with | some (.normal, e', m') => exF LP ref13_Check.L0 (LEnv.keep e' [0, 3, 4]) m' | r => r := exF_loop _ _ _ _ _
theorem wash_Back.L0_eq (e : LEnv) (m : LMem) : exF LP wash_Back.L0 e m = match exF LP wash_Back.B0 (LEnv.keep e [5, 6, 7, 8]) m with | some (.normal, e', m') => exF LP wash_Back.L0 (LEnv.keep e' [5, 6, 7, 8]) m' | r => r := exF_loop _ _ _ _ _
theorem wash_Back.L1_eq (e : LEnv) (m : LMem) : exF LP wash_Back.L1 e m = match exF LP wash_Back.B1 (LEnv.keep e [5, 6, 7]) m with | some (.normal, e', m') => exF LP wash_Back.L1 (LEnv.keep e' [5, 6, 7]) m' | r => r := exF_loop _ _ _ _ _
theorem wash_When.L0_eq (e : LEnv) (m : LMem) : exF LP wash_When.L0 e m = match exF LP wash_When.B0 (LEnv.keep e [0, 1, 2, 32, 33]) m with | some (.normal, e', m') => exF LP wash_When.L0 (LEnv.keep e' [0, 1, 2, 32, 33]) m' | r => r := exF_loop _ _ _ _ _
theorem wash_Then.L0_eq (e : LEnv) (m : LMem) : exF LP wash_Then.L0 e m = match exF LP wash_Then.B0 (LEnv.keep e [1, 7, 16, 17, 18]) m with | some (.normal, e', m') => exF LP wash_Then.L0 (LEnv.keep e' [1, 7, 16, 17, 18]) m' | r => r := exF_loop _ _ _ _ _
theorem wash_Named.L0_eq (e : LEnv) (m : LMem) : exF LP wash_Named.L0 e m = match exF LP wash_Named.B0 (LEnv.keep e [1, 7, 18, 19, 20]) m with | some (.normal, e', m') => exF LP wash_Named.L0 (LEnv.keep e' [1, 7, 18, 19, 20]) m' | r => r := exF_loop _ _ _ _ _
theorem wash_Exchange.L0_eq (e : LEnv) (m : LMem) : exF LP wash_Exchange.L0 e m = match exF LP wash_Exchange.B0 (LEnv.keep e [0, 1, 15, 16]) m with | some (.normal, e', m') => exF LP wash_Exchange.L0 (LEnv.keep e' [0, 1, 15, 16]) m' | r => r := exF_loop _ _ _ _ _
theorem wash_Why.L0_eq (e : LEnv) (m : LMem) : exF LP wash_Why.L0 e m = match exF LP wash_Why.B0 (LEnv.keep e [5, 6]) m with | some (.normal, e', m') => exF LP wash_Why.L0 (LEnv.keep e' [5, 6]) m' | r => r := exF_loop _ _ _ _ _
theorem ref13_Why.L0_eq (e : LEnv) (m : LMem) : exF LP ref13_Why.L0 e m = match exF LP ref13_Why.B0 (LEnv.keep e [0, 5]) m with | some (.normal, e', m') => exF LP ref13_Why.L0 (LEnv.keep e' [0, 5]) m' | r => r := exF_loop _ _ _ _ _
theorem wash_Halves.L0_eq (e : LEnv) (m : LMem) : exF LP wash_Halves.L0 e m = match exF LP wash_Halves.B0 (LEnv.keep e [5, 14, 15]) m with | some (.normal, e', m') => exF LP wash_Halves.L0 (LEnv.keep e' [5, 14, 15]) m' | r => r := exF_loop _ _ _ _ _
theorem wash_Friends.L0_eq (e : LEnv) (m : LMem) : exF LP wash_Friends.L0 e m = match exF LP wash_Friends.B0 (LEnv.keep e [5, 6, 15, 16, 20, 21]) m with | some (.normal, e', m') => exF LP wash_Friends.L0 (LEnv.keep e' [5, 6, 15, 16, 20, 21]) m' | r => r := exF_loop _ _ _ _ _
theorem wash_Friends.L1_eq (e : LEnv) (m : LMem) : exF LP wash_Friends.L1 e m = match exF LP wash_Friends.B1 (LEnv.keep e [5, 15, 16]) m with | some (.normal, e', m') => exF LP wash_Friends.L1 (LEnv.keep e' [5, 15, 16]) m' | r => r := exF_loop _ _ _ _ _
theorem wash_rings.L0_eq (e : LEnv) (m : LMem) : exF LP wash_rings.L0 e m = match exF LP wash_rings.B0 (LEnv.keep e [0, 3, 4, 5, 6, 8, 9]) m with | some (.normal, e', m') => exF LP wash_rings.L0 (LEnv.keep e' [0, 3, 4, 5, 6, 8, 9]) m' | r => r := exF_loop _ _ _ _ _
theorem wash_rings.L1_eq (e : LEnv) (m : LMem) : exF LP wash_rings.L1 e m = match exF LP wash_rings.B1 (LEnv.keep e [0, 3, 4, 8, 9]) m with | some (.normal, e', m') => exF LP wash_rings.L1 (LEnv.keep e' [0, 3, 4, 8, 9]) m' | r => r := exF_loop _ _ _ _ _
theorem ref13_then.L0_eq (e : LEnv) (m : LMem) : exF LP ref13_then.L0 e m = match exF LP ref13_then.B0 (LEnv.keep e [0, 1, 5, 6]) m with | some (.normal, e', m') => exF LP ref13_then.L0 (LEnv.keep e' [0, 1, 5, 6]) m' | r => r := exF_loop _ _ _ _ _
theorem ref13_rings.L0_eq (e : LEnv) (m : LMem) : exF LP ref13_rings.L0 e m = match exF LP ref13_rings.B0 (LEnv.keep e [0, 3, 4, 5, 6, 7]) m with | some (.normal, e', m') => exF LP ref13_rings.L0 (LEnv.keep e' [0, 3, 4, 5, 6, 7]) m' | r => r := exF_loop _ _ _ _ _
theorem ref13_rings.L1_eq (e : LEnv) (m : LMem) : exF LP ref13_rings.L1 e m = match exF LP ref13_rings.B1 (LEnv.keep e [0, 3, 4]) m with | some (.normal, e', m') => exF LP ref13_rings.L1 (LEnv.keep e' [0, 3, 4]) m' | r => r := exF_loop _ _ _ _ _
theorem ref13_has.L0_eq (e : LEnv) (m : LMem) : exF LP ref13_has.L0 e m = match exF LP ref13_has.B0 (LEnv.keep e [0, 1, 5]) m with | some (.normal, e', m') => exF LP ref13_has.L0 (LEnv.keep e' [0, 1, 5]) m' | r => r := exF_loop _ _ _ _ _
theorem wash_kindOf.L0_eq (e : LEnv) (m : LMem) : exF LP wash_kindOf.L0 e m = match exF LP wash_kindOf.B0 (LEnv.keep e [2, 3, 7, 8, 9]) m with | some (.normal, e', m') => exF LP wash_kindOf.L0 (LEnv.keep e' [2, 3, 7, 8, 9]) m' | r => r := exF_loop _ _ _ _ _
theorem ref13_ring.L0_eq (e : LEnv) (m : LMem) : exF LP ref13_ring.L0 e m = match exF LP ref13_ring.B0 (LEnv.keep e [0, 1, 5, 6]) m with | some (.normal, e', m') => exF LP ref13_ring.L0 (LEnv.keep e' [0, 1, 5, 6]) m' | r => r := exF_loop _ _ _ _ _
theorem wash_both.L0_eq (e : LEnv) (m : LMem) : exF LP wash_both.L0 e m = match exF LP wash_both.B0 (LEnv.keep e [0, 1, 10, 11]) m with | some (.normal, e', m') => exF LP wash_both.L0 (LEnv.keep e' [0, 1, 10, 11]) m' | r => r := exF_loop _ _ _ _ _
theorem ref13_many.L0_eq (e : LEnv) (m : LMem) : exF LP ref13_many.L0 e m = match exF LP ref13_many.B0 (LEnv.keep e [1, 5, 6, 7]) m with | some (.normal, e', m') => exF LP ref13_many.L0 (LEnv.keep e' [1, 5, 6, 7]) m' | r => r := exF_loop _ _ _ _ _
theorem ref13_same.L0_eq (e : LEnv) (m : LMem) : exF LP ref13_same.L0 e m = match exF LP ref13_same.B0 (LEnv.keep e [0, 1, 5]) m with | some (.normal, e', m') => exF LP ref13_same.L0 (LEnv.keep e' [0, 1, 5]) m' | r => r := exF_loop _ _ _ _ _
theorem slices_Repeat_int_int.L0_eq (e : LEnv) (m : LMem) : exF LP slices_Repeat_int_int.L0 e m = match exF LP slices_Repeat_int_int.B0 (LEnv.keep e [7, 8]) m with | some (.normal, e', m') => exF LP slices_Repeat_int_int.L0 (LEnv.keep e' [7, 8]) m' | r => r := exF_loop _ _ _ _ _
theorem wash_Half_1.L0_eq (e : LEnv) (m : LMem) : exF LP wash_Half_1.L0 e m = match exF LP wash_Half_1.B0 (LEnv.keep e [0, 1, 2, 3, 22, 23]) m with | some (.normal, e', m') => exF LP wash_Half_1.L0 (LEnv.keep e' [0, 1, 2, 3, 22, 23]) m' | r => r := exF_loop _ _ _ _ _
theorem wash_follow.L0_eq (e : LEnv) (m : LMem) : exF LP wash_follow.L0 e m = match exF LP wash_follow.B0 (LEnv.keep e [0, 1, 2, 3]) m with | some (.normal, e', m') => exF LP wash_follow.L0 (LEnv.keep e' [0, 1, 2, 3]) m' | r => r := exF_loop _ _ _ _ _
theorem ref13_halves.L0_eq (e : LEnv) (m : LMem) : exF LP ref13_halves.L0 e m = match exF LP ref13_halves.B0 (LEnv.keep e [0, 3, 4, 5]) m with | some (.normal, e', m') => exF LP ref13_halves.L0 (LEnv.keep e' [0, 3, 4, 5]) m' | r => r := exF_loop _ _ _ _ _
theorem ref13_all.L0_eq (e : LEnv) (m : LMem) : exF LP ref13_all.L0 e m = match exF LP ref13_all.B0 (LEnv.keep e [0, 1, 5, 6]) m with | some (.normal, e', m') => exF LP ref13_all.L0 (LEnv.keep e' [0, 1, 5, 6]) m' | r => r := exF_loop _ _ _ _ _
theorem slices_Index_int_int.L0_eq (e : LEnv) (m : LMem) : exF LP slices_Index_int_int.L0 e m = match exF LP slices_Index_int_int.B0 (LEnv.keep e [0, 1, 7, 8]) m with | some (.normal, e', m') => exF LP slices_Index_int_int.L0 (LEnv.keep e' [0, 1, 7, 8]) m' | r => r := exF_loop _ _ _ _ _
theorem progL : ProgL LP C := by
  intro f lf h
  unfold LP at h
  split at h
  · cases h; exact lok_law13_WashHalves
  · cases h; exact lok_law13_works
  · cases h; exact lok_wash_After
  · cases h; exact lok_wash_Rings
  · cases h; exact lok_law13_same
  · cases h; exact lok_law13_lists
  · cases h; exact lok_wash_Check
  · cases h; exact lok_ref13_Check
  · cases h; exact lok_wash_Back
  · cases h; exact lok_wash_When
  · cases h; exact lok_wash_Then
  · cases h; exact lok_wash_Named
  · cases h; exact lok_wash_Alike
  · cases h; exact lok_wash_Exchange
  · cases h; exact lok_wash_Odd
  · cases h; exact lok_wash_Why
  · cases h; exact lok_ref13_Why
  · cases h; exact lok_wash_Proves
  · cases h; exact lok_ref13_Proves
  · cases h; exact lok_wash_Half
  · cases h; exact lok_ref13_Half
  · cases h; exact lok_wash_Halves
  · cases h; exact lok_ref13_Halves
  · cases h; exact lok_wash_Friends
  · cases h; exact lok_law13_A
  · cases h; exact lok_law13_B
  · cases h; exact lok_law13_C
  · cases h; exact lok_law13_list
  · cases h; exact lok_wash_within
  · cases h; exact lok_wash_rings
  · cases h; exact lok_ref13_in
  · cases h; exact lok_ref13_then
  · cases h; exact lok_ref13_rings
  · cases h; exact lok_ref13_has
  · cases h; exact lok_wash_kindOf
  · cases h; exact lok_ref13_ring
  · cases h; exact lok_wash_both
  · cases h; exact lok_slices_Clone_int_int
  · cases h; exact lok_ref13_many
  · cases h; exact lok_ref13_same
  · cases h; exact lok_slices_Repeat_int_int
  · cases h; exact lok_wash_Half_1
  · cases h; exact lok_wash_follow
  · cases h; exact lok_ref13_halves
  · cases h; exact lok_wash_mates
  · cases h; exact lok_ref13_all
  · cases h; exact lok_slices_Contains_int_int
  · cases h; exact lok_math_bits_Mul
  · cases h; exact lok_slices_Index_int_int
  · cases h; exact lok_math_bits_Mul32
  · cases h; exact lok_math_bits_Mul64
  · cases h
end Go.Am.Wash

