import Derived.Test.YthnaeifkngeenaaDoorPgC8
import Derived.Test.YthnaeifkngeenaaDoorPgC3
/-
  What functions of chapter 12 compute, 14: a shore is rated by the fewest posts and how many lists there are.
-/
set_option linter.unusedVariables false
set_option linter.unusedSimpArgs false
set_option maxRecDepth 10000
namespace Go.Am.Post
open Go.Am.G

abbrev Pr2 := Int × Int
abbrev T6 := Pr2 × Pr2 × Pr2
abbrev f2 (x : Pr2) : List LV := [.int .i64 x.1, .int .i64 x.2]
def t6 (x : T6) : List LV := [.int .i64 x.1.1, .int .i64 x.1.2, .int .i64 x.2.1.1, .int .i64 x.2.1.2, .int .i64 x.2.2.1, .int .i64 x.2.2.2]
theorem t6_len (x : T6) : (t6 x).length = 6 := rfl
def sx (T : List T6) : List LV := T.flatMap t6
theorem sx_len (T : List T6) : (sx T).length = T.length * 6 := flat_length t6 6 t6_len T
theorem sx_under (k : Nat) (T : List T6) : LV.unders k (sx T) = true := flat_unders t6 k (fun _ => rfl) T
theorem sx_seg (T : List T6) (i : Nat) (h : i < T.length) : ((sx T).drop (i * 6)).take 6 = [.int .i64 T[i].1.1, .int .i64 T[i].1.2, .int .i64 T[i].2.1.1, .int .i64 T[i].2.1.2, .int .i64 T[i].2.2.1, .int .i64 T[i].2.2.2] := flat_seg t6 6 t6_len T i h
theorem sx_part (T : List T6) (i : Nat) (h : i < T.length) (j : Nat) : ((sx T).drop (i * 6 + j)).take 2 = (((t6 T[i]) ++ (sx T).drop (i * 6 + 6)).drop j).take 2 := by
  rw [← List.drop_drop, sx, ← flat_seg t6 6 t6_len T i h]
  rw [← List.drop_drop (i := 6) (j := i * 6)]
  rw [List.take_append_drop]
theorem sx_at0 (T : List T6) (i : Nat) (h : i < T.length) : ((sx T).drop (i * 6)).take 2 = f2 T[i].1 := sx_part T i h 0
theorem sx_at1 (T : List T6) (i : Nat) (h : i < T.length) : ((sx T).drop (i * 6 + 2)).take 2 = f2 T[i].2.1 := sx_part T i h 2
theorem sx_at2 (T : List T6) (i : Nat) (h : i < T.length) : ((sx T).drop (i * 6 + 4)).take 2 = f2 T[i].2.2 := sx_part T i h 4
theorem sx_set (T : List T6) (i : Nat) (h : i < T.length) (a b c d e f : Int) : (sx T).take (i * 6) ++ [.int .i64 a, .int .i64 b, .int .i64 c, .int .i64 d, .int .i64 e, .int .i64 f] ++ (sx T).drop (i * 6 + 6) = sx (T.set i ((a, b), (c, d), (e, f))) := flat_set t6 6 t6_len T i h ((a, b), (c, d), (e, f))

def fJ (a b : Pr2) : Pr2 := (IntKind.i64.wrap (a.1 + b.1), IntKind.i64.wrap (a.2 * b.2))
def fO (a b : Pr2) : Pr2 := if a.1 < b.1 then a else if b.1 < a.1 then b else (a.1, IntKind.i64.wrap (a.2 + b.2))
theorem ways1_c (i : Int) (m : LMem) : clF LP n_post_Ways_1 [.int .i64 i] m = some (.P, .agg [.int .i64 1, .int .i64 1], m) := by
  refine call_P lp_post_Ways_1 rfl rfl (m1 := [⟨[.int .i64 1, .int .i64 1], true⟩]) ?_ rfl m
  simp only [post_Ways_1, post_Ways_1.B, beqT, beqF, exF_seq, exF_region, exF_block, exF_cond, exF_ret, exF_exit, exF_skip, runL, wantL, stepL, evL, evC, LEnv.at, putL, loadFine, loadL, cellsAt, Trk.putNew, Trk.up, Trk.touch, Trk.gives, Trk.calm, Trk.hit, opdsOf, Trk.fresh, LEnv.keep, LEnv.ofFrom, List.map_cons, List.map_nil, nbeq, nble, nblt, ofAV, ofAVs, lenL, bin_add, bin_sub, bin_mul, bin_eql, bin_neq, bin_lss, bin_leq, bin_gtr, bin_geq, natL_nat, natL_zero, natL_one, natL_two, Nat.zero_mul, List.any_cons, List.any_nil, Bool.or_false, Bool.false_or, Bool.true_or, Bool.or_true, Bool.and_true, Bool.true_and, Bool.and_false, Bool.false_and, Bool.not_true, Bool.not_false, Nat.reduceBEq, Nat.reduceEqDiff, decide_true, decide_false, cond_true, cond_false, List.filter_nil, List.filter_cons, Nat.reduceAdd, Nat.reduceLeDiff, reduceCtorEq, List.length_nil, List.length_cons, Nat.mul_one, if_true, if_false, Bool.false_eq_true, eq_self, and_true, true_and, retL, resultsL, resAllL, resOfL, List.append_nil, List.nil_append, List.cons_append, true_or, or_true, false_or, or_false, false_and, and_false, not_true_eq_false, not_false_eq_true, ne_eq, unL, trim_nil, views_pures, LV.pures, LV.pure, freeze, Nat.reduceDiv, Int.reduceEq, Int.reduceLT, Int.reduceLE, Int.natCast_zero, LV.cells, allocL, List.getElem?_cons_zero, List.getElem?_cons_succ, storeL, spliceL, List.take_zero, List.take_succ_cons, List.drop_zero, List.drop_succ_cons, List.drop_nil, List.take_nil, Nat.le_refl, Nat.reduceMul, List.set_cons_zero, List.set_cons_succ, LV.scalar, List.all_cons, List.all_nil, Nat.lt_add_one, Nat.zero_lt_one, Nat.reduceLT, Nat.lt_irrefl, fillL, List.length_append, foldIntL, kind_beq, pures_int, solids_int, plains_int, unders_int, scalars_int]
theorem ways2_c (a b : Pr2) (m : LMem) : clF LP n_post_Ways_2 [.agg [.int .i64 a.1, .int .i64 a.2], .agg [.int .i64 b.1, .int .i64 b.2]] m = some (.P, .agg [.int .i64 (fJ a b).1, .int .i64 (fJ a b).2], m) := by
  refine call_P lp_post_Ways_2 rfl rfl (m1 := [⟨f2 a, true⟩, ⟨f2 b, true⟩, ⟨f2 (fJ a b), true⟩]) ?_ rfl m
  simp only [post_Ways_2, post_Ways_2.B, beqT, beqF, exF_seq, exF_region, exF_block, exF_cond, exF_ret, exF_exit, exF_skip, runL, wantL, stepL, evL, evC, LEnv.at, putL, loadFine, loadL, cellsAt, Trk.putNew, Trk.up, Trk.touch, Trk.gives, Trk.calm, Trk.hit, opdsOf, Trk.fresh, LEnv.keep, LEnv.ofFrom, List.map_cons, List.map_nil, nbeq, nble, nblt, ofAV, ofAVs, lenL, bin_add, bin_sub, bin_mul, bin_eql, bin_neq, bin_lss, bin_leq, bin_gtr, bin_geq, natL_nat, natL_zero, natL_one, natL_two, Nat.zero_mul, List.any_cons, List.any_nil, Bool.or_false, Bool.false_or, Bool.true_or, Bool.or_true, Bool.and_true, Bool.true_and, Bool.and_false, Bool.false_and, Bool.not_true, Bool.not_false, Nat.reduceBEq, Nat.reduceEqDiff, decide_true, decide_false, cond_true, cond_false, List.filter_nil, List.filter_cons, Nat.reduceAdd, Nat.reduceLeDiff, reduceCtorEq, List.length_nil, List.length_cons, Nat.mul_one, if_true, if_false, Bool.false_eq_true, eq_self, and_true, true_and, retL, resultsL, resAllL, resOfL, List.append_nil, List.nil_append, List.cons_append, true_or, or_true, false_or, or_false, false_and, and_false, not_true_eq_false, not_false_eq_true, ne_eq, unL, trim_nil, views_pures, LV.pures, LV.pure, freeze, Nat.reduceDiv, Int.reduceEq, Int.reduceLT, Int.reduceLE, Int.natCast_zero, LV.cells, allocL, List.getElem?_cons_zero, List.getElem?_cons_succ, storeL, spliceL, List.take_zero, List.take_succ_cons, List.drop_zero, List.drop_succ_cons, List.drop_nil, List.take_nil, Nat.le_refl, Nat.reduceMul, List.set_cons_zero, List.set_cons_succ, LV.scalar, List.all_cons, List.all_nil, Nat.lt_add_one, Nat.zero_lt_one, Nat.reduceLT, Nat.lt_irrefl, fillL, List.length_append, foldIntL, kind_beq, pures_int, solids_int, plains_int, unders_int, scalars_int, fJ]
theorem ways3_c (a b : Pr2) (m : LMem) : clF LP n_post_Ways_3 [.agg [.int .i64 a.1, .int .i64 a.2], .agg [.int .i64 b.1, .int .i64 b.2]] m = some (.P, .agg [.int .i64 (fO a b).1, .int .i64 (fO a b).2], m) := by
  refine call_P lp_post_Ways_3 rfl rfl (m1 := [⟨f2 a, true⟩, ⟨f2 b, true⟩, ⟨f2 (fO a b), true⟩]) ?_ rfl m
  unfold fO
  by_cases h1 : a.1 < b.1
  · simp only [post_Ways_3, post_Ways_3.B, beqT, beqF, exF_seq, exF_region, exF_block, exF_cond, exF_ret, exF_exit, exF_skip, runL, wantL, stepL, evL, evC, LEnv.at, putL, loadFine, loadL, cellsAt, Trk.putNew, Trk.up, Trk.touch, Trk.gives, Trk.calm, Trk.hit, opdsOf, Trk.fresh, LEnv.keep, LEnv.ofFrom, List.map_cons, List.map_nil, nbeq, nble, nblt, ofAV, ofAVs, lenL, bin_add, bin_sub, bin_mul, bin_eql, bin_neq, bin_lss, bin_leq, bin_gtr, bin_geq, natL_nat, natL_zero, natL_one, natL_two, Nat.zero_mul, List.any_cons, List.any_nil, Bool.or_false, Bool.false_or, Bool.true_or, Bool.or_true, Bool.and_true, Bool.true_and, Bool.and_false, Bool.false_and, Bool.not_true, Bool.not_false, Nat.reduceBEq, Nat.reduceEqDiff, decide_true, decide_false, cond_true, cond_false, List.filter_nil, List.filter_cons, Nat.reduceAdd, Nat.reduceLeDiff, reduceCtorEq, List.length_nil, List.length_cons, Nat.mul_one, if_true, if_false, Bool.false_eq_true, eq_self, and_true, true_and, retL, resultsL, resAllL, resOfL, List.append_nil, List.nil_append, List.cons_append, true_or, or_true, false_or, or_false, false_and, and_false, not_true_eq_false, not_false_eq_true, ne_eq, unL, trim_nil, views_pures, LV.pures, LV.pure, freeze, Nat.reduceDiv, Int.reduceEq, Int.reduceLT, Int.reduceLE, Int.natCast_zero, LV.cells, allocL, List.getElem?_cons_zero, List.getElem?_cons_succ, storeL, spliceL, List.take_zero, List.take_succ_cons, List.drop_zero, List.drop_succ_cons, List.drop_nil, List.take_nil, Nat.le_refl, Nat.reduceMul, List.set_cons_zero, List.set_cons_succ, LV.scalar, List.all_cons, List.all_nil, Nat.lt_add_one, Nat.zero_lt_one, Nat.reduceLT, Nat.lt_irrefl, fillL, List.length_append, foldIntL, kind_beq, pures_int, solids_int, plains_int, unders_int, scalars_int, h1]
  · by_cases h2 : b.1 < a.1
    · simp only [post_Ways_3, post_Ways_3.B, beqT, beqF, exF_seq, exF_region, exF_block, exF_cond, exF_ret, exF_exit, exF_skip, runL, wantL, stepL, evL, evC, LEnv.at, putL, loadFine, loadL, cellsAt, Trk.putNew, Trk.up, Trk.touch, Trk.gives, Trk.calm, Trk.hit, opdsOf, Trk.fresh, LEnv.keep, LEnv.ofFrom, List.map_cons, List.map_nil, nbeq, nble, nblt, ofAV, ofAVs, lenL, bin_add, bin_sub, bin_mul, bin_eql, bin_neq, bin_lss, bin_leq, bin_gtr, bin_geq, natL_nat, natL_zero, natL_one, natL_two, Nat.zero_mul, List.any_cons, List.any_nil, Bool.or_false, Bool.false_or, Bool.true_or, Bool.or_true, Bool.and_true, Bool.true_and, Bool.and_false, Bool.false_and, Bool.not_true, Bool.not_false, Nat.reduceBEq, Nat.reduceEqDiff, decide_true, decide_false, cond_true, cond_false, List.filter_nil, List.filter_cons, Nat.reduceAdd, Nat.reduceLeDiff, reduceCtorEq, List.length_nil, List.length_cons, Nat.mul_one, if_true, if_false, Bool.false_eq_true, eq_self, and_true, true_and, retL, resultsL, resAllL, resOfL, List.append_nil, List.nil_append, List.cons_append, true_or, or_true, false_or, or_false, false_and, and_false, not_true_eq_false, not_false_eq_true, ne_eq, unL, trim_nil, views_pures, LV.pures, LV.pure, freeze, Nat.reduceDiv, Int.reduceEq, Int.reduceLT, Int.reduceLE, Int.natCast_zero, LV.cells, allocL, List.getElem?_cons_zero, List.getElem?_cons_succ, storeL, spliceL, List.take_zero, List.take_succ_cons, List.drop_zero, List.drop_succ_cons, List.drop_nil, List.take_nil, Nat.le_refl, Nat.reduceMul, List.set_cons_zero, List.set_cons_succ, LV.scalar, List.all_cons, List.all_nil, Nat.lt_add_one, Nat.zero_lt_one, Nat.reduceLT, Nat.lt_irrefl, fillL, List.length_append, foldIntL, kind_beq, pures_int, solids_int, plains_int, unders_int, scalars_int, h1, h2]
    · simp only [post_Ways_3, post_Ways_3.B, beqT, beqF, exF_seq, exF_region, exF_block, exF_cond, exF_ret, exF_exit, exF_skip, runL, wantL, stepL, evL, evC, LEnv.at, putL, loadFine, loadL, cellsAt, Trk.putNew, Trk.up, Trk.touch, Trk.gives, Trk.calm, Trk.hit, opdsOf, Trk.fresh, LEnv.keep, LEnv.ofFrom, List.map_cons, List.map_nil, nbeq, nble, nblt, ofAV, ofAVs, lenL, bin_add, bin_sub, bin_mul, bin_eql, bin_neq, bin_lss, bin_leq, bin_gtr, bin_geq, natL_nat, natL_zero, natL_one, natL_two, Nat.zero_mul, List.any_cons, List.any_nil, Bool.or_false, Bool.false_or, Bool.true_or, Bool.or_true, Bool.and_true, Bool.true_and, Bool.and_false, Bool.false_and, Bool.not_true, Bool.not_false, Nat.reduceBEq, Nat.reduceEqDiff, decide_true, decide_false, cond_true, cond_false, List.filter_nil, List.filter_cons, Nat.reduceAdd, Nat.reduceLeDiff, reduceCtorEq, List.length_nil, List.length_cons, Nat.mul_one, if_true, if_false, Bool.false_eq_true, eq_self, and_true, true_and, retL, resultsL, resAllL, resOfL, List.append_nil, List.nil_append, List.cons_append, true_or, or_true, false_or, or_false, false_and, and_false, not_true_eq_false, not_false_eq_true, ne_eq, unL, trim_nil, views_pures, LV.pures, LV.pure, freeze, Nat.reduceDiv, Int.reduceEq, Int.reduceLT, Int.reduceLE, Int.natCast_zero, LV.cells, allocL, List.getElem?_cons_zero, List.getElem?_cons_succ, storeL, spliceL, List.take_zero, List.take_succ_cons, List.drop_zero, List.drop_succ_cons, List.drop_nil, List.take_nil, Nat.le_refl, Nat.reduceMul, List.set_cons_zero, List.set_cons_succ, LV.scalar, List.all_cons, List.all_nil, Nat.lt_add_one, Nat.zero_lt_one, Nat.reduceLT, Nat.lt_irrefl, fillL, List.length_append, foldIntL, kind_beq, pures_int, solids_int, plains_int, unders_int, scalars_int, h1, h2]
abbrev fCells : List LV := [.func n_post_Ways_1 [] [], .int .i64 0, .int .i64 1, .func n_post_Ways_2 [] [], .func n_post_Ways_3 [] [], .int .i64 1048576, .int .i64 0, .int .u64 0, .int .u64 0]
abbrev fRow : T6 := ((1, 1), (1048576, 0), (0, 1))
def fFill : Nat → Nat → List T6 → List T6
  | 0, _, T => T
  | n + 1, k, T => fFill n (k + 1) (T.set k fRow)
theorem frate_fill (nl ex : Bool) (sz : Nat) (s : List Int) (L : Nat) (h10 : L ≤ 10) (n : Nat) : ∀ (k : Nat) (T : List T6), k + n = L → T.length = L →
    exF LP post_rating_post_few_rate.L0 [(0, .elt fCells 0), (1, IL nl ex sz s), (4, .ptr 0 0 6), (5, .sl 1 0 L L 0 6 (L * 6)), (16, .int .i64 (L : Int)), (17, .int .i64 (k : Int))] [⟨[.int .i64 0, .int .i64 0, .int .i64 0, .int .i64 0, .int .i64 0, .int .i64 0], true⟩, ⟨sx T, true⟩] =
      some (.exit 0, [(0, .elt fCells 0), (1, IL nl ex sz s), (4, .ptr 0 0 6), (5, .sl 1 0 L L 0 6 (L * 6))], [⟨[.int .i64 0, .int .i64 0, .int .i64 0, .int .i64 0, .int .i64 0, .int .i64 0], true⟩, ⟨sx (fFill n k T), true⟩]) := by
  induction n with
  | zero =>
    intro k T hk hl
    rw [post_rating_post_few_rate.L0_eq]
    simp only [post_rating_post_few_rate.B0, beqT, beqF, exF_seq, exF_region, exF_block, exF_cond, exF_ret, exF_exit, exF_skip, runL, wantL, stepL, evL, evC, LEnv.at, putL, loadFine, loadL, cellsAt, Trk.putNew, Trk.up, Trk.touch, Trk.gives, Trk.calm, Trk.hit, opdsOf, Trk.fresh, LEnv.keep, LEnv.ofFrom, List.map_cons, List.map_nil, nbeq, nble, nblt, ofAV, ofAVs, lenL, bin_add, bin_sub, bin_mul, bin_eql, bin_neq, bin_lss, bin_leq, bin_gtr, bin_geq, natL_nat, natL_zero, natL_one, natL_two, Nat.zero_mul, List.any_cons, List.any_nil, Bool.or_false, Bool.false_or, Bool.true_or, Bool.or_true, Bool.and_true, Bool.true_and, Bool.and_false, Bool.false_and, Bool.not_true, Bool.not_false, Nat.reduceBEq, Nat.reduceEqDiff, decide_true, decide_false, cond_true, cond_false, List.filter_nil, List.filter_cons, Nat.reduceAdd, Nat.reduceLeDiff, reduceCtorEq, List.length_nil, List.length_cons, Nat.mul_one, if_true, if_false, Bool.false_eq_true, eq_self, and_true, true_and, retL, resultsL, resAllL, resOfL, List.append_nil, List.nil_append, List.cons_append, true_or, or_true, false_or, or_false, false_and, and_false, not_true_eq_false, not_false_eq_true, ne_eq, unL, trim_nil, views_pures, LV.pures, LV.pure, freeze, Nat.reduceDiv, Int.reduceEq, Int.reduceLT, Int.reduceLE, Int.natCast_zero, LV.cells, allocL, List.getElem?_cons_zero, List.getElem?_cons_succ, storeL, spliceL, List.take_zero, List.take_succ_cons, List.drop_zero, List.drop_succ_cons, List.drop_nil, List.take_nil, Nat.le_refl, Nat.reduceMul, List.set_cons_zero, List.set_cons_succ, LV.scalar, List.all_cons, List.all_nil, Nat.lt_add_one, Nat.zero_lt_one, Nat.reduceLT, Nat.lt_irrefl, fillL, List.length_append, foldIntL, kind_beq, pures_int, solids_int, plains_int, unders_int, scalars_int, show ¬ ((k : Int) < (L : Int)) by omega, fFill]
  | succ n ih =>
    intro k T hk hl
    have hkL : k < L := by omega
    have hkT : k < T.length := by omega
    have ih := ih (k + 1) (T.set k fRow) (by omega) (by simpa using hl)
    have b1 := bits_shr (a := 0) (show k < 64 by omega)
    rw [Nat.zero_div] at b1
    have b2 := bits_and1 (a := 0) (by omega)
    simp only [Int.natCast_zero, Nat.zero_mod] at b1 b2
    have l1 : (sx T).length = L * 6 := by rw [sx_len, hl]
    have s0 := sx_set T k hkT 1 1 1048576 0 0 1
    rw [post_rating_post_few_rate.L0_eq, fFill]
    simp only [post_rating_post_few_rate.B0, beqT, beqF, exF_seq, exF_region, exF_block, exF_cond, exF_ret, exF_exit, exF_skip, runL, wantL, stepL, evL, evC, LEnv.at, putL, loadFine, loadL, cellsAt, Trk.putNew, Trk.up, Trk.touch, Trk.gives, Trk.calm, Trk.hit, opdsOf, Trk.fresh, LEnv.keep, LEnv.ofFrom, List.map_cons, List.map_nil, nbeq, nble, nblt, ofAV, ofAVs, lenL, bin_add, bin_sub, bin_mul, bin_eql, bin_neq, bin_lss, bin_leq, bin_gtr, bin_geq, natL_nat, natL_zero, natL_one, natL_two, Nat.zero_mul, List.any_cons, List.any_nil, Bool.or_false, Bool.false_or, Bool.true_or, Bool.or_true, Bool.and_true, Bool.true_and, Bool.and_false, Bool.false_and, Bool.not_true, Bool.not_false, Nat.reduceBEq, Nat.reduceEqDiff, decide_true, decide_false, cond_true, cond_false, List.filter_nil, List.filter_cons, Nat.reduceAdd, Nat.reduceLeDiff, reduceCtorEq, List.length_nil, List.length_cons, Nat.mul_one, if_true, if_false, Bool.false_eq_true, eq_self, and_true, true_and, retL, resultsL, resAllL, resOfL, List.append_nil, List.nil_append, List.cons_append, true_or, or_true, false_or, or_false, false_and, and_false, not_true_eq_false, not_false_eq_true, ne_eq, unL, trim_nil, views_pures, LV.pures, LV.pure, freeze, Nat.reduceDiv, Int.reduceEq, Int.reduceLT, Int.reduceLE, Int.natCast_zero, LV.cells, allocL, List.getElem?_cons_zero, List.getElem?_cons_succ, storeL, spliceL, List.take_zero, List.take_succ_cons, List.drop_zero, List.drop_succ_cons, List.drop_nil, List.take_nil, Nat.le_refl, Nat.reduceMul, List.set_cons_zero, List.set_cons_succ, LV.scalar, List.all_cons, List.all_nil, Nat.lt_add_one, Nat.zero_lt_one, Nat.reduceLT, Nat.lt_irrefl, fillL, List.length_append, foldIntL, kind_beq, pures_int, solids_int, plains_int, unders_int, scalars_int, show ((k : Int) < (L : Int)) by omega, hkL, ways1_c, Nat.zero_add, Nat.add_zero, l1, show k * 6 + 6 ≤ L * 6 by omega, s0, b1, b2, trim_le, wrap_succ (show k + 1 < 9223372036854775808 by omega), ih]
def fMerge (b own : T6) : T6 :=
  (fJ b.1 (fO (fO own.1 own.2.1) own.2.2), fO (fJ b.2.1 (fO own.1 own.2.1)) (fJ b.2.2 own.1), fJ b.2.2 own.2.1)
abbrev z6 : T6 := ((0, 0), (0, 0), (0, 0))
def fFold (s : List Int) : Nat → List T6 → List T6
  | 0, T => T
  | j + 1, T => fFold s j (T.set (s.getD (j + 1) 0).toNat (fMerge (T.getD (s.getD (j + 1) 0).toNat z6) (T.getD (j + 1) z6)))
theorem frate_fold (nl ex : Bool) (sz : Nat) {s : List Int} (K : OkS s) (L : Nat) (hL : s.length = L) (n : Nat) : ∀ (k : Nat) (T : List T6), k + n + 1 = L → T.length = L →
    exF LP post_rating_post_few_rate.L1 [(0, .elt fCells 0), (1, IL nl ex sz s), (4, .ptr 0 0 6), (5, .sl 1 0 L L 0 6 (L * 6)), (81, .int .i64 ((L : Int) - 1)), (82, .int .i64 (k : Int))] [⟨[.int .i64 0, .int .i64 0, .int .i64 0, .int .i64 0, .int .i64 0, .int .i64 0], true⟩, ⟨sx T, true⟩] =
      some (.exit 2, [(4, .ptr 0 0 6), (5, .sl 1 0 L L 0 6 (L * 6))], [⟨[.int .i64 0, .int .i64 0, .int .i64 0, .int .i64 0, .int .i64 0, .int .i64 0], true⟩, ⟨sx (fFold s n T), true⟩]) := by
  have h10 := K.le
  induction n with
  | zero =>
    intro k T hk hl
    rw [post_rating_post_few_rate.L1_eq]
    simp only [post_rating_post_few_rate.B1, beqT, beqF, exF_seq, exF_region, exF_block, exF_cond, exF_ret, exF_exit, exF_skip, runL, wantL, stepL, evL, evC, LEnv.at, putL, loadFine, loadL, cellsAt, Trk.putNew, Trk.up, Trk.touch, Trk.gives, Trk.calm, Trk.hit, opdsOf, Trk.fresh, LEnv.keep, LEnv.ofFrom, List.map_cons, List.map_nil, nbeq, nble, nblt, ofAV, ofAVs, lenL, bin_add, bin_sub, bin_mul, bin_eql, bin_neq, bin_lss, bin_leq, bin_gtr, bin_geq, natL_nat, natL_zero, natL_one, natL_two, Nat.zero_mul, List.any_cons, List.any_nil, Bool.or_false, Bool.false_or, Bool.true_or, Bool.or_true, Bool.and_true, Bool.true_and, Bool.and_false, Bool.false_and, Bool.not_true, Bool.not_false, Nat.reduceBEq, Nat.reduceEqDiff, decide_true, decide_false, cond_true, cond_false, List.filter_nil, List.filter_cons, Nat.reduceAdd, Nat.reduceLeDiff, reduceCtorEq, List.length_nil, List.length_cons, Nat.mul_one, if_true, if_false, Bool.false_eq_true, eq_self, and_true, true_and, retL, resultsL, resAllL, resOfL, List.append_nil, List.nil_append, List.cons_append, true_or, or_true, false_or, or_false, false_and, and_false, not_true_eq_false, not_false_eq_true, ne_eq, unL, trim_nil, views_pures, LV.pures, LV.pure, freeze, Nat.reduceDiv, Int.reduceEq, Int.reduceLT, Int.reduceLE, Int.natCast_zero, LV.cells, allocL, List.getElem?_cons_zero, List.getElem?_cons_succ, storeL, spliceL, List.take_zero, List.take_succ_cons, List.drop_zero, List.drop_succ_cons, List.drop_nil, List.take_nil, Nat.le_refl, Nat.reduceMul, List.set_cons_zero, List.set_cons_succ, LV.scalar, List.all_cons, List.all_nil, Nat.lt_add_one, Nat.zero_lt_one, Nat.reduceLT, Nat.lt_irrefl, fillL, List.length_append, foldIntL, kind_beq, pures_int, solids_int, plains_int, unders_int, scalars_int, show ¬ ((k : Int) < (L : Int) - 1) by omega, fFold]
  | succ n ih =>
    intro k T hk hl
    have hi : n + 1 < s.length := by omega
    have hiL : n + 1 < L := by omega
    have hiT : n + 1 < T.length := by omega
    obtain ⟨p0, p1⟩ := K.hi (n + 1) (by omega) hi
    obtain ⟨p, hp⟩ := Int.eq_ofNat_of_zero_le p0
    have hgi : s[n + 1] = (p : Int) := by rw [← hp]; simp [List.getD_eq_getElem?_getD, hi]
    have hpL : p < L := by omega
    have hpT : p < T.length := by omega
    have gp : T.getD p z6 = T[p] := by simp [List.getD_eq_getElem?_getD, hpT]
    have gi : T.getD (n + 1) z6 = T[n + 1] := by simp [List.getD_eq_getElem?_getD, hiT]
    have hw1 : IntKind.i64.wrap ((L : Int) - 1) = (L : Int) - 1 := wrap_in (by omega)
    have hw2 : IntKind.i64.wrap ((L : Int) - 1 - (k : Int)) = ((n + 1 : Nat) : Int) := by rw [wrap_in (by omega)]; omega
    have l1 : (sx T).length = L * 6 := by rw [sx_len, hl]
    have sg := sx_seg T (n + 1) hiT
    have a0 := sx_at0 T p hpT
    have a1 := sx_at1 T p hpT
    have a2 := sx_at2 T p hpT
    have ih := ih (k + 1) (T.set p (fMerge T[p] T[n + 1])) (by omega) (by simpa using hl)
    rw [post_rating_post_few_rate.L1_eq, fFold, hp, Int.toNat_natCast, gp, gi]
    have st := sx_set T p hpT (fMerge T[p] T[n + 1]).1.1 (fMerge T[p] T[n + 1]).1.2 (fMerge T[p] T[n + 1]).2.1.1 (fMerge T[p] T[n + 1]).2.1.2 (fMerge T[p] T[n + 1]).2.2.1 (fMerge T[p] T[n + 1]).2.2.2
    change _ = sx (T.set p (fMerge T[p] T[n + 1])) at st
    have q1 := ways3_c T[n + 1].1 T[n + 1].2.1
    have q2 := ways3_c (fO T[n + 1].1 T[n + 1].2.1) T[n + 1].2.2
    have q3 := ways2_c T[p].1 (fO (fO T[n + 1].1 T[n + 1].2.1) T[n + 1].2.2)
    have q4 := ways2_c T[p].2.1 (fO T[n + 1].1 T[n + 1].2.1)
    have q5 := ways2_c T[p].2.2 T[n + 1].1
    have q6 := ways3_c (fJ T[p].2.1 (fO T[n + 1].1 T[n + 1].2.1)) (fJ T[p].2.2 T[n + 1].1)
    have q7 := ways2_c T[p].2.2 T[n + 1].2.1
    simp only [fMerge] at st
    simp only [post_rating_post_few_rate.B1, beqT, beqF, exF_seq, exF_region, exF_block, exF_cond, exF_ret, exF_exit, exF_skip, runL, wantL, stepL, evL, evC, LEnv.at, putL, loadFine, loadL, cellsAt, Trk.putNew, Trk.up, Trk.touch, Trk.gives, Trk.calm, Trk.hit, opdsOf, Trk.fresh, LEnv.keep, LEnv.ofFrom, List.map_cons, List.map_nil, nbeq, nble, nblt, ofAV, ofAVs, lenL, bin_add, bin_sub, bin_mul, bin_eql, bin_neq, bin_lss, bin_leq, bin_gtr, bin_geq, natL_nat, natL_zero, natL_one, natL_two, Nat.zero_mul, List.any_cons, List.any_nil, Bool.or_false, Bool.false_or, Bool.true_or, Bool.or_true, Bool.and_true, Bool.true_and, Bool.and_false, Bool.false_and, Bool.not_true, Bool.not_false, Nat.reduceBEq, Nat.reduceEqDiff, decide_true, decide_false, cond_true, cond_false, List.filter_nil, List.filter_cons, Nat.reduceAdd, Nat.reduceLeDiff, reduceCtorEq, List.length_nil, List.length_cons, Nat.mul_one, if_true, if_false, Bool.false_eq_true, eq_self, and_true, true_and, retL, resultsL, resAllL, resOfL, List.append_nil, List.nil_append, List.cons_append, true_or, or_true, false_or, or_false, false_and, and_false, not_true_eq_false, not_false_eq_true, ne_eq, unL, trim_nil, views_pures, LV.pures, LV.pure, freeze, Nat.reduceDiv, Int.reduceEq, Int.reduceLT, Int.reduceLE, Int.natCast_zero, LV.cells, allocL, List.getElem?_cons_zero, List.getElem?_cons_succ, storeL, spliceL, List.take_zero, List.take_succ_cons, List.drop_zero, List.drop_succ_cons, List.drop_nil, List.take_nil, Nat.le_refl, Nat.reduceMul, List.set_cons_zero, List.set_cons_succ, LV.scalar, List.all_cons, List.all_nil, Nat.lt_add_one, Nat.zero_lt_one, Nat.reduceLT, Nat.lt_irrefl, fillL, List.length_append, foldIntL, kind_beq, pures_int, solids_int, plains_int, unders_int, scalars_int, show ((k : Int) < (L : Int) - 1) by omega, hL, hw1, hw2, hi, hiL, hpL, Nat.zero_add, Nat.add_zero, l1, show (n + 1) * 6 + 6 ≤ L * 6 by omega, show p * 6 + 6 ≤ L * 6 by omega, show p * 6 + 2 ≤ L * 6 by omega, show p * 6 + 2 + 2 ≤ L * 6 by omega, show p * 6 + 4 + 2 ≤ L * 6 by omega, sg, int_at _ _ _ hi, hgi, a0, a1, a2, q1, q2, q3, q4, q5, q6, q7, st, trim, belowM, envVals, LV.unders, LV.under, sx_under, Nat.reduceLT, wrap_succ (show k + 1 < 9223372036854775808 by omega)]
    exact ih
end Go.Am.Post

/-
  Plain: the most places that are apart, place by place. No statement of the seat is proved here.
-/
set_option linter.unusedVariables false
set_option linter.unusedSimpArgs false
namespace Go.Am.Post
variable (h : Nat → Nat)

/-- Places that come one after the other, none with something met already. -/
def fits : Nat → List Nat → Bool
  | _, [] => true
  | met, x :: r => decide (h x &&& met = 0) && fits (met ||| h x) r
def mostM : Nat → Nat → Nat → Nat
  | 0, _, _ => 0
  | d + 1, i, met => if h i &&& met = 0 then max (1 + mostM d (i + 1) (met ||| h i)) (mostM d (i + 1) met) else mostM d (i + 1) met
def grM : Nat → Nat → Nat → List Nat
  | 0, _, _ => []
  | d + 1, i, met => if h i &&& met = 0 ∧ 1 + mostM h d (i + 1) (met ||| h i) = mostM h (d + 1) i met then i :: grM d (i + 1) (met ||| h i) else grM d (i + 1) met
theorem asc_succ_mem {i d : Nat} {l : List Nat} (hl : l ∈ asc i (d + 1)) : (∃ r ∈ asc (i + 1) d, l = i :: r) ∨ l ∈ asc (i + 1) d := by
  have hm := (mem_asc _ _ _).1 hl
  cases l with
  | nil => right; exact (mem_asc _ _ _).2 ⟨trivial, by simp⟩
  | cons x r =>
    by_cases e : x = i
    · subst e
      left
      exact ⟨r, (mem_asc _ _ _).2 ⟨hm.1.2, fun y hy => by have := hm.2 y (by simp [hy]); omega⟩, rfl⟩
    · right
      exact (mem_asc _ _ _).2 ⟨⟨by have := hm.1.1; omega, hm.1.2⟩, fun y hy => by have := hm.2 y hy; omega⟩
theorem most_le (d : Nat) : ∀ i met S, S ∈ asc i d → fits h met S = true → S.length ≤ mostM h d i met := by
  induction d with
  | zero => intro i met S hS _; simp [asc] at hS; subst hS; simp
  | succ d ih =>
    intro i met S hS hf
    rw [mostM]
    rcases asc_succ_mem hS with ⟨r, hr, rfl⟩ | hr
    · simp only [fits, Bool.and_eq_true, decide_eq_true_eq] at hf
      have := ih _ _ _ hr hf.2
      rw [if_pos hf.1]; simp only [List.length_cons]; omega
    · have := ih _ _ _ hr hf
      split <;> omega
theorem gr_find (d : Nat) : ∀ i met, (asc i d).find? (fun S => fits h met S && decide (S.length = mostM h d i met)) = some (grM h d i met) := by
  induction d with
  | zero => intro i met; simp [asc, fits, mostM, grM]
  | succ d ih =>
    intro i met
    rw [show asc i (d + 1) = [] :: ((asc (i + 1) d).map (i :: ·) ++ (asc (i + 1) d).tail) from rfl, List.find?_cons]
    by_cases hb : mostM h (d + 1) i met = 0
    · have h0 : mostM h d (i + 1) met = 0 := by rw [mostM] at hb; split at hb <;> omega
      have hi := ih (i + 1) met
      rw [h0, asc_head] at hi
      simp only [List.find?_cons, fits, List.length_nil, decide_true, Bool.and_true, Option.some.injEq] at hi
      simp only [hb, fits, List.length_nil, decide_true, Bool.and_true]
      rw [grM, if_neg (by omega), ← hi]
    · have hb' : ¬ 0 = mostM h (d + 1) i met := fun e => hb e.symm
      simp only [fits, List.length_nil, hb', decide_false, Bool.and_false, List.find?_append, find_map, List.length_cons]
      rw [grM]
      by_cases hc : h i &&& met = 0 ∧ 1 + mostM h d (i + 1) (met ||| h i) = mostM h (d + 1) i met
      · rw [if_pos hc]
        have hi := ih (i + 1) (met ||| h i)
        have e : (fun x : List Nat => decide (h i &&& met = 0) && fits h (met ||| h i) x && decide (x.length + 1 = mostM h (d + 1) i met)) = fun S => fits h (met ||| h i) S && decide (S.length = mostM h d (i + 1) (met ||| h i)) := by
          funext x
          rw [← hc.2]
          simp only [hc.1, decide_true, Bool.true_and]
          congr 2
          rw [eq_iff_iff]; omega
        rw [e, hi]; rfl
      · rw [if_neg hc]
        have hmx : mostM h (d + 1) i met = mostM h d (i + 1) met := by
          rw [mostM] at hc ⊢
          by_cases hf : h i &&& met = 0
          · rw [if_pos hf] at hc ⊢; omega
          · rw [if_neg hf]
        have e : (asc (i + 1) d).find? (fun x : List Nat => decide (h i &&& met = 0) && fits h (met ||| h i) x && decide (x.length + 1 = mostM h (d + 1) i met)) = none := by
          rw [List.find?_eq_none]
          intro x hx
          simp only [Bool.and_eq_true, decide_eq_true_eq]
          rintro ⟨⟨h1, h2⟩, h3⟩
          have := most_le h d _ _ _ hx h2
          rw [mostM, if_pos h1] at hc h3
          exact hc ⟨h1, by omega⟩
        rw [e, hmx]
        have hi := ih (i + 1) met
        rw [asc_head, List.find?_cons] at hi
        simp only [fits, List.length_nil, show ¬ 0 = mostM h d (i + 1) met by omega, decide_false, Bool.and_false] at hi
        simpa using hi
theorem and_or_zero (a b c : Nat) : a &&& (b ||| c) = 0 ↔ a &&& b = 0 ∧ a &&& c = 0 := by
  rw [Nat.and_or_distrib_left, Nat.or_eq_zero_iff]
theorem fits_iff : ∀ (l : List Nat) (met : Nat), fits h met l = true ↔ (∀ x ∈ l, h x &&& met = 0) ∧ l.Pairwise fun a b => h a &&& h b = 0
  | [], met => by simp [fits]
  | x :: r, met => by
    simp only [fits, Bool.and_eq_true, decide_eq_true_eq, fits_iff r, List.mem_cons, forall_eq_or_imp, List.pairwise_cons, and_or_zero]
    constructor
    · rintro ⟨h1, h2, h3⟩
      exact ⟨⟨h1, fun a ha => (h2 a ha).1⟩, fun b hb => by rw [Nat.and_comm]; exact (h2 b hb).2, h3⟩
    · rintro ⟨⟨h1, h2⟩, h3, h4⟩
      exact ⟨h1, fun b hb => ⟨h2 b hb, by rw [Nat.and_comm]; exact h3 b hb⟩, h4⟩

end Go.Am.Post

/-
  What functions of chapter 12 compute, 4: Hand; lists of places; numbers in common.
-/
set_option linter.unusedVariables false
set_option linter.unusedSimpArgs false
set_option maxRecDepth 10000
namespace Go.Am.Post
open Go.Am.G

end Go.Am.Post


