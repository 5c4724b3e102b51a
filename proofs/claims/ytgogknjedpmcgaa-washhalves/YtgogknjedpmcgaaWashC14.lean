/-
  What functions of chapter 13 compute, 14: the program's search for a half: what follows.
-/
import Derived.Test.YtgogknjedpmcgaaWashC13
set_option linter.unusedVariables false
set_option linter.unusedSimpArgs false
set_option maxRecDepth 10000
namespace Go.Am.Wash
open Go.Am.G

/-! ### Library functions -/
def idxC (x : Int) : List Int → Nat → Int
  | [], _ => -1
  | a :: r, k => if x = a then (k : Int) else idxC x r (k + 1)
theorem idxC_mem (x : Int) : ∀ (l : List Int) (k : Nat), (0 ≤ idxC x l k) ↔ x ∈ l
  | [], k => by simp [idxC]
  | a :: r, k => by
    rw [idxC]
    by_cases h : x = a
    · simp [h]
    · simp [h, idxC_mem x r (k + 1)]
theorem index_loop (nl ex : Bool) (sz : Nat) (l : List Int) (x : Int) (hl : l.length < 1000000) (n : Nat) : ∀ k, k + n = l.length →
    exF LP slices_Index_int_int.L0 [(0, IL nl ex sz l), (1, .int .i64 x), (7, .int .i64 (l.length : Int)), (8, .int .i64 (k : Int))] [] =
      if idxC x (l.drop k) k < 0 then some (.exit 0, [], []) else some (.ret, [(4, .int .i64 (idxC x (l.drop k) k))], []) := by
  induction n with
  | zero =>
    intro k hk
    rw [slices_Index_int_int.L0_eq]
    simp only [slices_Index_int_int.B0, beqT, beqF, exF_seq, exF_region, exF_block, exF_cond, exF_ret, exF_exit, exF_skip, runL, wantL, stepL, evL, LEnv.at, putL, loadFine, loadL, cellsAt, Trk.putNew, Trk.up, Trk.touch, Trk.gives, Trk.calm, Trk.hit, opdsOf, Trk.fresh, LEnv.keep, LEnv.ofFrom, List.map_cons, List.map_nil, nbeq, nble, nblt, ofAV, ofAVs, lenL, bin_add, bin_sub, bin_mul, bin_eql, bin_neq, bin_lss, bin_leq, bin_gtr, bin_geq, natL_nat, natL_zero, natL_one, natL_two, Nat.zero_mul, List.any_cons, List.any_nil, Bool.or_false, Bool.false_or, Bool.true_or, Bool.or_true, Bool.and_true, Bool.true_and, Bool.and_false, Bool.false_and, Bool.not_true, Bool.not_false, Nat.reduceBEq, Nat.reduceEqDiff, decide_true, decide_false, cond_true, cond_false, List.filter_nil, List.filter_cons, Nat.reduceAdd, Nat.reduceLeDiff, reduceCtorEq, List.length_nil, List.length_cons, Nat.mul_one, if_true, if_false, Bool.false_eq_true, eq_self, and_true, true_and, retL, resultsL, resAllL, resOfL, List.append_nil, List.nil_append, List.cons_append, true_or, or_true, false_or, or_false, false_and, and_false, not_true_eq_false, not_false_eq_true, ne_eq, unL, trim_nil, views_pures, LV.pures, LV.pure, freeze, Nat.reduceDiv, Int.reduceEq, Int.reduceLT, Int.reduceLE, Int.natCast_zero, LV.cells, allocL, List.getElem?_cons_zero, List.getElem?_cons_succ, storeL, spliceL, List.take_zero, List.take_succ_cons, List.drop_zero, List.drop_succ_cons, List.drop_nil, List.take_nil, Nat.le_refl, Nat.reduceMul, List.set_cons_zero, List.set_cons_succ, LV.scalar, List.all_cons, List.all_nil, Nat.lt_add_one, Nat.zero_lt_one, Nat.reduceLT, Nat.lt_irrefl, fillL, List.length_append, foldIntL, kind_beq, pures_int, solids_int, plains_int, unders_int, scalars_int, show ¬ ((k : Int) < (l.length : Int)) by omega]
    simp [List.drop_eq_nil_of_le (show l.length ≤ k by omega), idxC]
  | succ n ih =>
    intro k hk
    have h2 : k < l.length := by omega
    rw [slices_Index_int_int.L0_eq, List.drop_eq_getElem_cons h2, idxC]
    have hn : ¬ ((k : Int) < 0) := by omega
    by_cases he : x = l[k]
    · simp only [slices_Index_int_int.B0, beqT, beqF, exF_seq, exF_region, exF_block, exF_cond, exF_ret, exF_exit, exF_skip, runL, wantL, stepL, evL, LEnv.at, putL, loadFine, loadL, cellsAt, Trk.putNew, Trk.up, Trk.touch, Trk.gives, Trk.calm, Trk.hit, opdsOf, Trk.fresh, LEnv.keep, LEnv.ofFrom, List.map_cons, List.map_nil, nbeq, nble, nblt, ofAV, ofAVs, lenL, bin_add, bin_sub, bin_mul, bin_eql, bin_neq, bin_lss, bin_leq, bin_gtr, bin_geq, natL_nat, natL_zero, natL_one, natL_two, Nat.zero_mul, List.any_cons, List.any_nil, Bool.or_false, Bool.false_or, Bool.true_or, Bool.or_true, Bool.and_true, Bool.true_and, Bool.and_false, Bool.false_and, Bool.not_true, Bool.not_false, Nat.reduceBEq, Nat.reduceEqDiff, decide_true, decide_false, cond_true, cond_false, List.filter_nil, List.filter_cons, Nat.reduceAdd, Nat.reduceLeDiff, reduceCtorEq, List.length_nil, List.length_cons, Nat.mul_one, if_true, if_false, Bool.false_eq_true, eq_self, and_true, true_and, retL, resultsL, resAllL, resOfL, List.append_nil, List.nil_append, List.cons_append, true_or, or_true, false_or, or_false, false_and, and_false, not_true_eq_false, not_false_eq_true, ne_eq, unL, trim_nil, views_pures, LV.pures, LV.pure, freeze, Nat.reduceDiv, Int.reduceEq, Int.reduceLT, Int.reduceLE, Int.natCast_zero, LV.cells, allocL, List.getElem?_cons_zero, List.getElem?_cons_succ, storeL, spliceL, List.take_zero, List.take_succ_cons, List.drop_zero, List.drop_succ_cons, List.drop_nil, List.take_nil, Nat.le_refl, Nat.reduceMul, List.set_cons_zero, List.set_cons_succ, LV.scalar, List.all_cons, List.all_nil, Nat.lt_add_one, Nat.zero_lt_one, Nat.reduceLT, Nat.lt_irrefl, fillL, List.length_append, foldIntL, kind_beq, pures_int, solids_int, plains_int, unders_int, scalars_int, show ((k : Int) < (l.length : Int)) by omega, h2, int_at _ _ _ h2, he, hn]
    · simp only [slices_Index_int_int.B0, beqT, beqF, exF_seq, exF_region, exF_block, exF_cond, exF_ret, exF_exit, exF_skip, runL, wantL, stepL, evL, LEnv.at, putL, loadFine, loadL, cellsAt, Trk.putNew, Trk.up, Trk.touch, Trk.gives, Trk.calm, Trk.hit, opdsOf, Trk.fresh, LEnv.keep, LEnv.ofFrom, List.map_cons, List.map_nil, nbeq, nble, nblt, ofAV, ofAVs, lenL, bin_add, bin_sub, bin_mul, bin_eql, bin_neq, bin_lss, bin_leq, bin_gtr, bin_geq, natL_nat, natL_zero, natL_one, natL_two, Nat.zero_mul, List.any_cons, List.any_nil, Bool.or_false, Bool.false_or, Bool.true_or, Bool.or_true, Bool.and_true, Bool.true_and, Bool.and_false, Bool.false_and, Bool.not_true, Bool.not_false, Nat.reduceBEq, Nat.reduceEqDiff, decide_true, decide_false, cond_true, cond_false, List.filter_nil, List.filter_cons, Nat.reduceAdd, Nat.reduceLeDiff, reduceCtorEq, List.length_nil, List.length_cons, Nat.mul_one, if_true, if_false, Bool.false_eq_true, eq_self, and_true, true_and, retL, resultsL, resAllL, resOfL, List.append_nil, List.nil_append, List.cons_append, true_or, or_true, false_or, or_false, false_and, and_false, not_true_eq_false, not_false_eq_true, ne_eq, unL, trim_nil, views_pures, LV.pures, LV.pure, freeze, Nat.reduceDiv, Int.reduceEq, Int.reduceLT, Int.reduceLE, Int.natCast_zero, LV.cells, allocL, List.getElem?_cons_zero, List.getElem?_cons_succ, storeL, spliceL, List.take_zero, List.take_succ_cons, List.drop_zero, List.drop_succ_cons, List.drop_nil, List.take_nil, Nat.le_refl, Nat.reduceMul, List.set_cons_zero, List.set_cons_succ, LV.scalar, List.all_cons, List.all_nil, Nat.lt_add_one, Nat.zero_lt_one, Nat.reduceLT, Nat.lt_irrefl, fillL, List.length_append, foldIntL, kind_beq, pures_int, solids_int, plains_int, unders_int, scalars_int, show ((k : Int) < (l.length : Int)) by omega, h2, int_at _ _ _ h2, he, wrap_succ (show k + 1 < 9223372036854775808 by omega), ih (k + 1) (by omega)]
theorem index_c (nl ex : Bool) (sz : Nat) (l : List Int) (x : Int) (hl : l.length < 1000000) (m : LMem) : clF LP n_slices_Index_int_int [IL nl ex sz l, .int .i64 x] m = some (.P, .int .i64 (idxC x l 0), m) := by
  refine call_P lp_slices_Index_int_int rfl (by simp [LV.pures, LV.pure]) (m1 := []) ?_ rfl m
  have h := index_loop nl ex sz l x hl l.length 0 (by omega)
  simp only [Int.natCast_zero, List.drop_zero] at h
  by_cases hc : idxC x l 0 < 0
  · have : idxC x l 0 = -1 := by
      have : ∀ (l : List Int) (k : Nat), idxC x l k < 0 → idxC x l k = -1 := by
        intro l
        induction l with
        | nil => intro k _; rfl
        | cons a r ih => intro k h; rw [idxC] at h ⊢; split at h <;> rename_i c <;> simp only [c, if_true, if_false] at * <;> first | omega | exact ih _ h
      exact this l 0 hc
    simp only [slices_Index_int_int, slices_Index_int_int.B, beqT, beqF, exF_seq, exF_region, exF_block, exF_cond, exF_ret, exF_exit, exF_skip, runL, wantL, stepL, evL, LEnv.at, putL, loadFine, loadL, cellsAt, Trk.putNew, Trk.up, Trk.touch, Trk.gives, Trk.calm, Trk.hit, opdsOf, Trk.fresh, LEnv.keep, LEnv.ofFrom, List.map_cons, List.map_nil, nbeq, nble, nblt, ofAV, ofAVs, lenL, bin_add, bin_sub, bin_mul, bin_eql, bin_neq, bin_lss, bin_leq, bin_gtr, bin_geq, natL_nat, natL_zero, natL_one, natL_two, Nat.zero_mul, List.any_cons, List.any_nil, Bool.or_false, Bool.false_or, Bool.true_or, Bool.or_true, Bool.and_true, Bool.true_and, Bool.and_false, Bool.false_and, Bool.not_true, Bool.not_false, Nat.reduceBEq, Nat.reduceEqDiff, decide_true, decide_false, cond_true, cond_false, List.filter_nil, List.filter_cons, Nat.reduceAdd, Nat.reduceLeDiff, reduceCtorEq, List.length_nil, List.length_cons, Nat.mul_one, if_true, if_false, Bool.false_eq_true, eq_self, and_true, true_and, retL, resultsL, resAllL, resOfL, List.append_nil, List.nil_append, List.cons_append, true_or, or_true, false_or, or_false, false_and, and_false, not_true_eq_false, not_false_eq_true, ne_eq, unL, trim_nil, views_pures, LV.pures, LV.pure, freeze, Nat.reduceDiv, Int.reduceEq, Int.reduceLT, Int.reduceLE, Int.natCast_zero, LV.cells, allocL, List.getElem?_cons_zero, List.getElem?_cons_succ, storeL, spliceL, List.take_zero, List.take_succ_cons, List.drop_zero, List.drop_succ_cons, List.drop_nil, List.take_nil, Nat.le_refl, Nat.reduceMul, List.set_cons_zero, List.set_cons_succ, LV.scalar, List.all_cons, List.all_nil, Nat.lt_add_one, Nat.zero_lt_one, Nat.reduceLT, Nat.lt_irrefl, fillL, List.length_append, foldIntL, kind_beq, pures_int, solids_int, plains_int, unders_int, scalars_int, h, hc]
    rw [this]
  · simp only [slices_Index_int_int, slices_Index_int_int.B, beqT, beqF, exF_seq, exF_region, exF_block, exF_cond, exF_ret, exF_exit, exF_skip, runL, wantL, stepL, evL, LEnv.at, putL, loadFine, loadL, cellsAt, Trk.putNew, Trk.up, Trk.touch, Trk.gives, Trk.calm, Trk.hit, opdsOf, Trk.fresh, LEnv.keep, LEnv.ofFrom, List.map_cons, List.map_nil, nbeq, nble, nblt, ofAV, ofAVs, lenL, bin_add, bin_sub, bin_mul, bin_eql, bin_neq, bin_lss, bin_leq, bin_gtr, bin_geq, natL_nat, natL_zero, natL_one, natL_two, Nat.zero_mul, List.any_cons, List.any_nil, Bool.or_false, Bool.false_or, Bool.true_or, Bool.or_true, Bool.and_true, Bool.true_and, Bool.and_false, Bool.false_and, Bool.not_true, Bool.not_false, Nat.reduceBEq, Nat.reduceEqDiff, decide_true, decide_false, cond_true, cond_false, List.filter_nil, List.filter_cons, Nat.reduceAdd, Nat.reduceLeDiff, reduceCtorEq, List.length_nil, List.length_cons, Nat.mul_one, if_true, if_false, Bool.false_eq_true, eq_self, and_true, true_and, retL, resultsL, resAllL, resOfL, List.append_nil, List.nil_append, List.cons_append, true_or, or_true, false_or, or_false, false_and, and_false, not_true_eq_false, not_false_eq_true, ne_eq, unL, trim_nil, views_pures, LV.pures, LV.pure, freeze, Nat.reduceDiv, Int.reduceEq, Int.reduceLT, Int.reduceLE, Int.natCast_zero, LV.cells, allocL, List.getElem?_cons_zero, List.getElem?_cons_succ, storeL, spliceL, List.take_zero, List.take_succ_cons, List.drop_zero, List.drop_succ_cons, List.drop_nil, List.take_nil, Nat.le_refl, Nat.reduceMul, List.set_cons_zero, List.set_cons_succ, LV.scalar, List.all_cons, List.all_nil, Nat.lt_add_one, Nat.zero_lt_one, Nat.reduceLT, Nat.lt_irrefl, fillL, List.length_append, foldIntL, kind_beq, pures_int, solids_int, plains_int, unders_int, scalars_int, h, hc]
theorem contains_c (nl ex : Bool) (sz : Nat) (l : List Int) (x : Int) (hl : l.length < 1000000) (m : LMem) : clF LP n_slices_Contains_int_int [IL nl ex sz l, .int .i64 x] m = some (.P, .bool (decide (x ∈ l)), m) := by
  refine call_P lp_slices_Contains_int_int rfl (by simp [LV.pures, LV.pure]) (m1 := []) ?_ rfl m
  have h := fun m => index_c nl ex sz l x hl m
  have h2 := idxC_mem x l 0
  simp only [slices_Contains_int_int, slices_Contains_int_int.B, beqT, beqF, exF_seq, exF_region, exF_block, exF_cond, exF_ret, exF_exit, exF_skip, runL, wantL, stepL, evL, LEnv.at, putL, loadFine, loadL, cellsAt, Trk.putNew, Trk.up, Trk.touch, Trk.gives, Trk.calm, Trk.hit, opdsOf, Trk.fresh, LEnv.keep, LEnv.ofFrom, List.map_cons, List.map_nil, nbeq, nble, nblt, ofAV, ofAVs, lenL, bin_add, bin_sub, bin_mul, bin_eql, bin_neq, bin_lss, bin_leq, bin_gtr, bin_geq, natL_nat, natL_zero, natL_one, natL_two, Nat.zero_mul, List.any_cons, List.any_nil, Bool.or_false, Bool.false_or, Bool.true_or, Bool.or_true, Bool.and_true, Bool.true_and, Bool.and_false, Bool.false_and, Bool.not_true, Bool.not_false, Nat.reduceBEq, Nat.reduceEqDiff, decide_true, decide_false, cond_true, cond_false, List.filter_nil, List.filter_cons, Nat.reduceAdd, Nat.reduceLeDiff, reduceCtorEq, List.length_nil, List.length_cons, Nat.mul_one, if_true, if_false, Bool.false_eq_true, eq_self, and_true, true_and, retL, resultsL, resAllL, resOfL, List.append_nil, List.nil_append, List.cons_append, true_or, or_true, false_or, or_false, false_and, and_false, not_true_eq_false, not_false_eq_true, ne_eq, unL, trim_nil, views_pures, LV.pures, LV.pure, freeze, Nat.reduceDiv, Int.reduceEq, Int.reduceLT, Int.reduceLE, Int.natCast_zero, LV.cells, allocL, List.getElem?_cons_zero, List.getElem?_cons_succ, storeL, spliceL, List.take_zero, List.take_succ_cons, List.drop_zero, List.drop_succ_cons, List.drop_nil, List.take_nil, Nat.le_refl, Nat.reduceMul, List.set_cons_zero, List.set_cons_succ, LV.scalar, List.all_cons, List.all_nil, Nat.lt_add_one, Nat.zero_lt_one, Nat.reduceLT, Nat.lt_irrefl, fillL, List.length_append, foldIntL, kind_beq, pures_int, solids_int, plains_int, unders_int, scalars_int, h, h2]
theorem repeat_run : ∀ (L : Nat), L ≤ 7 → exF LP slices_Repeat_int_int.B (LEnv.ofFrom 0 [.lst false true 1 1 [.int .i64 (-1)], .int .i64 (L : Int)]) [] = some (.ret, [(4, .sl 0 0 L L 0 1 L)], [⟨(List.replicate L (-1 : Int)).map (LV.int .i64), true⟩])
  | 0, _ => exF_some.2 ⟨100, by kernel_rfl⟩
  | 1, _ => exF_some.2 ⟨100, by kernel_rfl⟩
  | 2, _ => exF_some.2 ⟨100, by kernel_rfl⟩
  | 3, _ => exF_some.2 ⟨100, by kernel_rfl⟩
  | 4, _ => exF_some.2 ⟨100, by kernel_rfl⟩
  | 5, _ => exF_some.2 ⟨100, by kernel_rfl⟩
  | 6, _ => exF_some.2 ⟨100, by kernel_rfl⟩
  | 7, _ => exF_some.2 ⟨100, by kernel_rfl⟩
  | n + 8, h => absurd h (by omega)
theorem repeat_c (L : Nat) (h : L ≤ 7) (m : LMem) : clF LP n_slices_Repeat_int_int [.lst false true 1 1 [.int .i64 (-1)], .int .i64 (L : Int)] m = some (.O, .sl m.length 0 L L 0 1 L, m ++ [⟨(List.replicate L (-1 : Int)).map (LV.int .i64), true⟩]) := by
  rw [call_O lp_slices_Repeat_int_int rfl (by simp [LV.pures, LV.pure]) (v := .sl 0 0 L L 0 1 L) (m1 := [⟨(List.replicate L (-1 : Int)).map (LV.int .i64), true⟩]) (by simp only [slices_Repeat_int_int, repeat_run L h]; rfl) m]
  have e : LV.shifts m.length ((List.replicate L (-1 : Int)).map (LV.int .i64)) = (List.replicate L (-1 : Int)).map (LV.int .i64) := shifts_int _ _ _
  simp only [LV.shift, List.map_cons, List.map_nil, e, Nat.zero_add, Nat.add_zero]

/-! ### A half in memory: 0 is a place not known, x + 1 the place x -/
abbrev hi (h : List Nat) : List Int := h.map fun x : Nat => (x : Int) - 1
theorem hi_len (h : List Nat) : (hi h).length = h.length := by simp
theorem hi_at (h : List Nat) (i : Nat) (hh : i < h.length) : (ints (hi h))[i]? = some (.int .i64 ((nth h i : Int) - 1)) := by
  rw [nth_at h i hh, ints, List.map_map, List.getElem?_map, List.getElem?_eq_getElem hh]; rfl
theorem hi_mem (h : List Nat) (q : Nat) : decide ((q : Int) ∈ hi h) = hasN h (q + 1) := by
  have e : ((q : Int) ∈ hi h) ↔ q + 1 ∈ h := by
    simp only [List.mem_map]
    constructor
    · rintro ⟨y, hy, e⟩
      have : y = q + 1 := by omega
      rw [← this]; exact hy
    · intro h; exact ⟨q + 1, h, by omega⟩
  by_cases c : q + 1 ∈ h
  · rw [(hasN_iff h _).2 c]; exact decide_eq_true (e.2 c)
  · have : hasN h (q + 1) = false := by rw [Bool.eq_false_iff]; intro e; exact c ((hasN_iff h _).1 e)
    rw [this]; exact decide_eq_false fun x => c (e.1 x)
theorem hi_set (h : List Nat) (p q : Nat) (hp : p < h.length) : (ints (hi h)).take p ++ [.int .i64 (q : Int)] ++ (ints (hi h)).drop (p + 1) = ints (hi (h.set p (q + 1))) := by
  have e : hi (h.set p (q + 1)) = (hi h).set p (q : Int) := by
    simp only [hi, List.map_set]
    congr 1
    omega
  rw [e]
  exact set_int .i64 (hi h) p (q : Int) (by rw [hi_len]; exact hp)
/-- The list lies in block 1 of the memory. -/
def SLH (N : Nat) : LV := .sl 1 0 N N 0 1 N
theorem contains_m (B0 : LBlk) (h : List Nat) (Y : LMem) (q N : Nat) (hN : h.length = N) (hl : N ≤ 7) : clF LP n_slices_Contains_int_int [SLH N, .int .i64 (q : Int)] (B0 :: ⟨ints (hi h), true⟩ :: Y) = some (.P, .bool (hasN h (q + 1)), B0 :: ⟨ints (hi h), true⟩ :: Y) := by
  rw [← hi_mem]
  refine call_view lp_slices_Contains_int_int rfl (vs := [IL false true 1 (hi h), .int .i64 (q : Int)]) (ids := [1]) ?_ (by simp [LV.pures, LV.pure]) (contains_c false true 1 (hi h) (q : Int) (by rw [hi_len]; omega) []) rfl
  refine views_two 32 _ _ _ _ _ (fun k => ?_) rfl (by simp [LV.pures, LV.pure, SLH])
  have := view_sl k (B0 :: ⟨ints (hi h), true⟩ :: Y) 1 0 N N 0 (hi h) true rfl (by rw [hi_len]; exact hN) (by omega) N (Nat.le_refl _)
  rw [List.drop_zero, List.take_of_length_le (by rw [hi_len]; omega)] at this
  rw [SLH, this]
  simp [nbeq]

/-! ### follow -/
theorem fol_loop (nl ex : Bool) {t : List Nat} (D : Td t) (B0 : LBlk) (Y : LMem) (f : Nat) : ∀ (h : List Nat) (p q : Nat) (c : Bool) (h' : List Nat), h.length = t.length → p < t.length → q < t.length → folF t f h p q = some (c, h') →
    exF LP wash_follow.L0 [(0, IL nl ex 1 (ci t)), (1, SLH t.length), (2, .int .i64 (p : Int)), (3, .int .i64 (q : Int))] (B0 :: ⟨ints (hi h), true⟩ :: Y) = some (if c then (.exit 0, [], B0 :: ⟨ints (hi h'), true⟩ :: Y) else (.ret, [(8, .bool false)], B0 :: ⟨ints (hi h'), true⟩ :: Y)) ∧ h'.length = t.length := by
  have h7 := D.h7
  induction f with
  | zero => intro h p q c h' _ _ _ e; cases e
  | succ f ih =>
    intro h p q c h' hl hp hq e
    have hat := hi_at h p (by omega)
    have hL : (ints (hi h)).length = t.length := by simp [hl]
    have hcm := contains_m B0 h Y q t.length hl h7
    rw [folF] at e
    rw [wash_follow.L0_eq]
    cases c1 : Nat.beq (nth h p) (q + 1)
    · rw [c1, cond_false] at e
      have n1 : ¬ nth h p = q + 1 := by rw [nbeq, decide_eq_false_iff_not] at c1; exact c1
      have n1' : ¬ ((nth h p : Int) - 1) = (q : Int) := by omega
      cases c2 : Nat.blt 0 (nth h p)
      · rw [c2, cond_false] at e
        have n2 : ¬ (0 : Int) ≤ ((nth h p : Int) - 1) := by rw [nblt, decide_eq_false_iff_not] at c2; omega
        cases c3 : hasN h (q + 1)
        · rw [c3, cond_false] at e
          rw [c3] at hcm
          have hst := hi_set h p q (by omega)
          have h2 := nat_at .i64 t p hp
          obtain ⟨g, g2⟩ := ih (h.set p (q + 1)) q (nth t p) c h' (by simpa using hl) hq (by rw [nth_at t p hp]; exact D.lt _ (List.getElem_mem hp)) e
          refine ⟨?_, g2⟩
          rw [nth_at t p hp] at g
          simp only [SLH, IL, ci_len, ci_map] at hcm g ⊢
          simp only [wash_follow.B0, beqT, beqF, exF_seq, exF_region, exF_block, exF_cond, exF_ret, exF_exit, exF_skip, runL, wantL, stepL, evL, LEnv.at, putL, loadFine, loadL, cellsAt, Trk.putNew, Trk.up, Trk.touch, Trk.gives, Trk.calm, Trk.hit, opdsOf, Trk.fresh, LEnv.keep, LEnv.ofFrom, List.map_cons, List.map_nil, nbeq, nble, nblt, ofAV, ofAVs, lenL, bin_add, bin_sub, bin_mul, bin_eql, bin_neq, bin_lss, bin_leq, bin_gtr, bin_geq, natL_nat, natL_zero, natL_one, natL_two, Nat.zero_mul, List.any_cons, List.any_nil, Bool.or_false, Bool.false_or, Bool.true_or, Bool.or_true, Bool.and_true, Bool.true_and, Bool.and_false, Bool.false_and, Bool.not_true, Bool.not_false, Nat.reduceBEq, Nat.reduceEqDiff, decide_true, decide_false, cond_true, cond_false, List.filter_nil, List.filter_cons, Nat.reduceAdd, Nat.reduceLeDiff, reduceCtorEq, List.length_nil, List.length_cons, Nat.mul_one, if_true, if_false, Bool.false_eq_true, eq_self, and_true, true_and, retL, resultsL, resAllL, resOfL, List.append_nil, List.nil_append, List.cons_append, true_or, or_true, false_or, or_false, false_and, and_false, not_true_eq_false, not_false_eq_true, ne_eq, unL, trim_nil, views_pures, LV.pures, LV.pure, freeze, Nat.reduceDiv, Int.reduceEq, Int.reduceLT, Int.reduceLE, Int.natCast_zero, LV.cells, allocL, List.getElem?_cons_zero, List.getElem?_cons_succ, storeL, spliceL, List.take_zero, List.take_succ_cons, List.drop_zero, List.drop_succ_cons, List.drop_nil, List.take_nil, Nat.le_refl, Nat.reduceMul, List.set_cons_zero, List.set_cons_succ, LV.scalar, List.all_cons, List.all_nil, Nat.lt_add_one, Nat.zero_lt_one, Nat.reduceLT, Nat.lt_irrefl, fillL, List.length_append, foldIntL, kind_beq, pures_int, solids_int, plains_int, unders_int, scalars_int, Nat.zero_add, hp, hL, hat, n1', n2, hcm, hst, h2, show p + 1 ≤ t.length by omega, g]
        · rw [c3, cond_true] at e
          rw [c3] at hcm
          obtain ⟨rfl, rfl⟩ := Prod.mk.inj (Option.some.inj e)
          refine ⟨?_, hl⟩
          simp only [SLH] at hcm ⊢
          simp only [wash_follow.B0, beqT, beqF, exF_seq, exF_region, exF_block, exF_cond, exF_ret, exF_exit, exF_skip, runL, wantL, stepL, evL, LEnv.at, putL, loadFine, loadL, cellsAt, Trk.putNew, Trk.up, Trk.touch, Trk.gives, Trk.calm, Trk.hit, opdsOf, Trk.fresh, LEnv.keep, LEnv.ofFrom, List.map_cons, List.map_nil, nbeq, nble, nblt, ofAV, ofAVs, lenL, bin_add, bin_sub, bin_mul, bin_eql, bin_neq, bin_lss, bin_leq, bin_gtr, bin_geq, natL_nat, natL_zero, natL_one, natL_two, Nat.zero_mul, List.any_cons, List.any_nil, Bool.or_false, Bool.false_or, Bool.true_or, Bool.or_true, Bool.and_true, Bool.true_and, Bool.and_false, Bool.false_and, Bool.not_true, Bool.not_false, Nat.reduceBEq, Nat.reduceEqDiff, decide_true, decide_false, cond_true, cond_false, List.filter_nil, List.filter_cons, Nat.reduceAdd, Nat.reduceLeDiff, reduceCtorEq, List.length_nil, List.length_cons, Nat.mul_one, if_true, if_false, Bool.false_eq_true, eq_self, and_true, true_and, retL, resultsL, resAllL, resOfL, List.append_nil, List.nil_append, List.cons_append, true_or, or_true, false_or, or_false, false_and, and_false, not_true_eq_false, not_false_eq_true, ne_eq, unL, trim_nil, views_pures, LV.pures, LV.pure, freeze, Nat.reduceDiv, Int.reduceEq, Int.reduceLT, Int.reduceLE, Int.natCast_zero, LV.cells, allocL, List.getElem?_cons_zero, List.getElem?_cons_succ, storeL, spliceL, List.take_zero, List.take_succ_cons, List.drop_zero, List.drop_succ_cons, List.drop_nil, List.take_nil, Nat.le_refl, Nat.reduceMul, List.set_cons_zero, List.set_cons_succ, LV.scalar, List.all_cons, List.all_nil, Nat.lt_add_one, Nat.zero_lt_one, Nat.reduceLT, Nat.lt_irrefl, fillL, List.length_append, foldIntL, kind_beq, pures_int, solids_int, plains_int, unders_int, scalars_int, Nat.zero_add, hp, hL, hat, n1', n2, hcm]
      · rw [c2, cond_true, cond_true] at e
        have n2 : (0 : Int) ≤ ((nth h p : Int) - 1) := by rw [nblt, decide_eq_true_eq] at c2; omega
        obtain ⟨rfl, rfl⟩ := Prod.mk.inj (Option.some.inj e)
        refine ⟨?_, hl⟩
        simp only [SLH]
        simp only [wash_follow.B0, beqT, beqF, exF_seq, exF_region, exF_block, exF_cond, exF_ret, exF_exit, exF_skip, runL, wantL, stepL, evL, LEnv.at, putL, loadFine, loadL, cellsAt, Trk.putNew, Trk.up, Trk.touch, Trk.gives, Trk.calm, Trk.hit, opdsOf, Trk.fresh, LEnv.keep, LEnv.ofFrom, List.map_cons, List.map_nil, nbeq, nble, nblt, ofAV, ofAVs, lenL, bin_add, bin_sub, bin_mul, bin_eql, bin_neq, bin_lss, bin_leq, bin_gtr, bin_geq, natL_nat, natL_zero, natL_one, natL_two, Nat.zero_mul, List.any_cons, List.any_nil, Bool.or_false, Bool.false_or, Bool.true_or, Bool.or_true, Bool.and_true, Bool.true_and, Bool.and_false, Bool.false_and, Bool.not_true, Bool.not_false, Nat.reduceBEq, Nat.reduceEqDiff, decide_true, decide_false, cond_true, cond_false, List.filter_nil, List.filter_cons, Nat.reduceAdd, Nat.reduceLeDiff, reduceCtorEq, List.length_nil, List.length_cons, Nat.mul_one, if_true, if_false, Bool.false_eq_true, eq_self, and_true, true_and, retL, resultsL, resAllL, resOfL, List.append_nil, List.nil_append, List.cons_append, true_or, or_true, false_or, or_false, false_and, and_false, not_true_eq_false, not_false_eq_true, ne_eq, unL, trim_nil, views_pures, LV.pures, LV.pure, freeze, Nat.reduceDiv, Int.reduceEq, Int.reduceLT, Int.reduceLE, Int.natCast_zero, LV.cells, allocL, List.getElem?_cons_zero, List.getElem?_cons_succ, storeL, spliceL, List.take_zero, List.take_succ_cons, List.drop_zero, List.drop_succ_cons, List.drop_nil, List.take_nil, Nat.le_refl, Nat.reduceMul, List.set_cons_zero, List.set_cons_succ, LV.scalar, List.all_cons, List.all_nil, Nat.lt_add_one, Nat.zero_lt_one, Nat.reduceLT, Nat.lt_irrefl, fillL, List.length_append, foldIntL, kind_beq, pures_int, solids_int, plains_int, unders_int, scalars_int, Nat.zero_add, hp, hL, hat, n1', n2]
    · rw [c1, cond_true] at e
      have n1 : nth h p = q + 1 := Nat.eq_of_beq_eq_true c1
      have n1' : ((nth h p : Int) - 1) = (q : Int) := by omega
      obtain ⟨rfl, rfl⟩ := Prod.mk.inj (Option.some.inj e)
      refine ⟨?_, hl⟩
      simp only [SLH]
      simp only [wash_follow.B0, beqT, beqF, exF_seq, exF_region, exF_block, exF_cond, exF_ret, exF_exit, exF_skip, runL, wantL, stepL, evL, LEnv.at, putL, loadFine, loadL, cellsAt, Trk.putNew, Trk.up, Trk.touch, Trk.gives, Trk.calm, Trk.hit, opdsOf, Trk.fresh, LEnv.keep, LEnv.ofFrom, List.map_cons, List.map_nil, nbeq, nble, nblt, ofAV, ofAVs, lenL, bin_add, bin_sub, bin_mul, bin_eql, bin_neq, bin_lss, bin_leq, bin_gtr, bin_geq, natL_nat, natL_zero, natL_one, natL_two, Nat.zero_mul, List.any_cons, List.any_nil, Bool.or_false, Bool.false_or, Bool.true_or, Bool.or_true, Bool.and_true, Bool.true_and, Bool.and_false, Bool.false_and, Bool.not_true, Bool.not_false, Nat.reduceBEq, Nat.reduceEqDiff, decide_true, decide_false, cond_true, cond_false, List.filter_nil, List.filter_cons, Nat.reduceAdd, Nat.reduceLeDiff, reduceCtorEq, List.length_nil, List.length_cons, Nat.mul_one, if_true, if_false, Bool.false_eq_true, eq_self, and_true, true_and, retL, resultsL, resAllL, resOfL, List.append_nil, List.nil_append, List.cons_append, true_or, or_true, false_or, or_false, false_and, and_false, not_true_eq_false, not_false_eq_true, ne_eq, unL, trim_nil, views_pures, LV.pures, LV.pure, freeze, Nat.reduceDiv, Int.reduceEq, Int.reduceLT, Int.reduceLE, Int.natCast_zero, LV.cells, allocL, List.getElem?_cons_zero, List.getElem?_cons_succ, storeL, spliceL, List.take_zero, List.take_succ_cons, List.drop_zero, List.drop_succ_cons, List.drop_nil, List.take_nil, Nat.le_refl, Nat.reduceMul, List.set_cons_zero, List.set_cons_succ, LV.scalar, List.all_cons, List.all_nil, Nat.lt_add_one, Nat.zero_lt_one, Nat.reduceLT, Nat.lt_irrefl, fillL, List.length_append, foldIntL, kind_beq, pures_int, solids_int, plains_int, unders_int, scalars_int, Nat.zero_add, hp, hL, hat, n1']
end Go.Am.Wash

