import Derived.Test.YtcckhkcchpfdoaaShareD16
import Derived.Test.YtcckhkcchpfdoaaShareC12
import Derived.Test.YtcckhkcchpfdoaaShareC17
/-
  What functions of chapter 07 compute, outright 17: the law 'ShareMost': one division.
-/
set_option linter.unusedVariables false
set_option linter.unusedSimpArgs false
set_option maxRecDepth 10000
set_option maxHeartbeats 400000
namespace Go.Am.Share
open Go.Am.G

end Go.Am.Share

/-
  What functions of chapter 07 compute, outright 18: the law 'ShareMost', joined.
-/
set_option linter.unusedVariables false
set_option linter.unusedSimpArgs false
set_option maxRecDepth 10000
set_option maxHeartbeats 400000
namespace Go.Am.Share
open Go.Am.G

end Go.Am.Share

/-
  What functions of chapter 07 compute, outright 19: who envies one; who is not envied.
-/
set_option linter.unusedVariables false
set_option linter.unusedSimpArgs false
set_option maxRecDepth 10000
set_option maxHeartbeats 400000
namespace Go.Am.Share
open Go.Am.G

/-! ### Views of functions with two places -/
theorem view_ptrq (q : Nat) (k : Nat) (m : LMem) (i L : Nat) (cs cs' : List LV) (ids : List Nat) (b : Bool) (h : m[i]? = some ⟨cs, b⟩) (hL : cs.length = L) (hv : ∀ k, viewL (k + q) m cs = some (cs', ids)) : view (k + q + 1) m (.ptr i 0 L) = some (.elt cs' 0, i :: ids) := by
  rw [view.eq_def]
  simp only [h, hL, nbeq, decide_true, cond_true, hv k]
theorem view_fun2 (q : Nat) (k : Nat) (m : LMem) (g : Nat) (a b a' b' : LV) (i1 i2 : List Nat) (h1 : ∀ k, view (k + q) m a = some (a', i1)) (h2 : ∀ k, view (k + q) m b = some (b', i2)) (hn : LV.pures [a, b] = false) : view (k + q + 8) m (.func g [] [a, b]) = some (.func g [] [a', b'], i1 ++ i2) := by
  have hC : viewL (k + q + 7) m [a, b] = some ([a', b'], i1 ++ i2) := by
    rw [viewL.eq_def]
    simp only [hn, cond_false]
    rw [viewC.eq_def]
    have e1 := h1 (k + 5)
    have e2 := h2 (k + 4)
    rw [show k + 5 + q = k + q + 5 by omega] at e1
    rw [show k + 4 + q = k + q + 4 by omega] at e2
    simp only [e1]
    rw [viewC.eq_def]
    simp only [e2]
    rw [viewC.eq_def]
    simp
  rw [view.eq_def]
  simp only [hC, viewL_pures _ _ [] rfl, List.nil_append]
theorem views_sndq (q : Nat) (m : LMem) (a b b' : LV) (ids : List Nat) (hq : q ≤ 34) (h : ∀ k, view (k + q) m b = some (b', ids)) (ha : a.pure = true) (hn : LV.pures [a, b] = false) : views m [a, b] = some ([a, b'], ids) := by
  have h34 := h (37 - q)
  rw [show 37 - q + q = 37 by omega] at h34
  unfold views
  rw [viewL.eq_def]
  simp only [hn, cond_false]
  rw [viewC.eq_def]
  simp only [view_pure 36 m a ha]
  rw [viewC.eq_def]
  simp only [h34]
  rw [viewC.eq_def]
  simp

/-! ### The first one -/
theorem first_loop (n : Nat) (hn : n < 1000000) (g : Nat) (cap : List LV) (p : Nat → Bool) (hg : ∀ i, i < n → ∀ m, clF LP g (.int .i64 (i : Int) :: cap) m = some (.P, .bool (p i), m)) (d : Nat) : ∀ k, k + d = n →
    exF LP law07_first.L0 [(1, .func g [] cap), (6, .int .i64 (n : Int)), (7, .int .i64 (k : Int))] [] = if fstI p d k = -1 then some (.exit 0, [], []) else some (.ret, [(4, .int .i64 (fstI p d k))], []) := by
  induction d with
  | zero =>
    intro k hk
    rw [law07_first.L0_eq]
    simp only [law07_first.B0, beqT, beqF, exF_seq, exF_region, exF_block, exF_cond, exF_ret, exF_exit, exF_skip, runL, wantL, stepL, evL, evC, LEnv.at, putL, loadFine, loadL, cellsAt, Trk.putNew, Trk.up, Trk.touch, Trk.gives, Trk.calm, Trk.hit, opdsOf, Trk.fresh, LEnv.keep, LEnv.ofFrom, List.map_cons, List.map_nil, nbeq, nble, nblt, ofAV, ofAVs, lenL, bin_add, bin_sub, bin_mul, bin_eql, bin_neq, bin_lss, bin_leq, bin_gtr, bin_geq, natL_nat, natL_zero, natL_one, natL_two, Nat.zero_mul, List.any_cons, List.any_nil, Bool.or_false, Bool.false_or, Bool.true_or, Bool.or_true, Bool.and_true, Bool.true_and, Bool.and_false, Bool.false_and, Bool.not_true, Bool.not_false, Nat.reduceBEq, Nat.reduceEqDiff, decide_true, decide_false, cond_true, cond_false, List.filter_nil, List.filter_cons, Nat.reduceAdd, Nat.reduceLeDiff, reduceCtorEq, List.length_nil, List.length_cons, Nat.mul_one, if_true, if_false, Bool.false_eq_true, eq_self, and_true, true_and, retL, resultsL, resAllL, resOfL, List.append_nil, List.nil_append, List.cons_append, true_or, or_true, false_or, or_false, false_and, and_false, not_true_eq_false, not_false_eq_true, ne_eq, unL, trim_nil, views_pures, LV.pures, LV.pure, freeze, Nat.reduceDiv, Int.reduceEq, Int.reduceLT, Int.reduceLE, Int.natCast_zero, LV.cells, allocL, List.getElem?_cons_zero, List.getElem?_cons_succ, storeL, spliceL, List.take_zero, List.take_succ_cons, List.drop_zero, List.drop_succ_cons, List.drop_nil, List.take_nil, Nat.le_refl, Nat.reduceMul, List.set_cons_zero, List.set_cons_succ, LV.scalar, List.all_cons, List.all_nil, Nat.lt_add_one, Nat.zero_lt_one, Nat.reduceLT, Nat.lt_irrefl, fillL, List.length_append, foldIntL, kind_beq, pures_int, solids_int, plains_int, unders_int, scalars_int, show ¬ ((k : Int) < (n : Int)) by omega, fstI]
  | succ d ih =>
    intro k hk
    have hkn : k < n := by omega
    have ih := ih (k + 1) (by omega)
    have hg := hg k hkn
    have hws := wrap_succ (show k + 1 < 9223372036854775808 by omega)
    rw [law07_first.L0_eq, fstI]
    cases hp : p k
    · rw [hp] at hg
      simp only [law07_first.B0, beqT, beqF, exF_seq, exF_region, exF_block, exF_cond, exF_ret, exF_exit, exF_skip, runL, wantL, stepL, evL, evC, LEnv.at, putL, loadFine, loadL, cellsAt, Trk.putNew, Trk.up, Trk.touch, Trk.gives, Trk.calm, Trk.hit, opdsOf, Trk.fresh, LEnv.keep, LEnv.ofFrom, List.map_cons, List.map_nil, nbeq, nble, nblt, ofAV, ofAVs, lenL, bin_add, bin_sub, bin_mul, bin_eql, bin_neq, bin_lss, bin_leq, bin_gtr, bin_geq, natL_nat, natL_zero, natL_one, natL_two, Nat.zero_mul, List.any_cons, List.any_nil, Bool.or_false, Bool.false_or, Bool.true_or, Bool.or_true, Bool.and_true, Bool.true_and, Bool.and_false, Bool.false_and, Bool.not_true, Bool.not_false, Nat.reduceBEq, Nat.reduceEqDiff, decide_true, decide_false, cond_true, cond_false, List.filter_nil, List.filter_cons, Nat.reduceAdd, Nat.reduceLeDiff, reduceCtorEq, List.length_nil, List.length_cons, Nat.mul_one, if_true, if_false, Bool.false_eq_true, eq_self, and_true, true_and, retL, resultsL, resAllL, resOfL, List.append_nil, List.nil_append, List.cons_append, true_or, or_true, false_or, or_false, false_and, and_false, not_true_eq_false, not_false_eq_true, ne_eq, unL, trim_nil, views_pures, LV.pures, LV.pure, freeze, Nat.reduceDiv, Int.reduceEq, Int.reduceLT, Int.reduceLE, Int.natCast_zero, LV.cells, allocL, List.getElem?_cons_zero, List.getElem?_cons_succ, storeL, spliceL, List.take_zero, List.take_succ_cons, List.drop_zero, List.drop_succ_cons, List.drop_nil, List.take_nil, Nat.le_refl, Nat.reduceMul, List.set_cons_zero, List.set_cons_succ, LV.scalar, List.all_cons, List.all_nil, Nat.lt_add_one, Nat.zero_lt_one, Nat.reduceLT, Nat.lt_irrefl, fillL, List.length_append, foldIntL, kind_beq, pures_int, solids_int, plains_int, unders_int, scalars_int, show ((k : Int) < (n : Int)) by omega, hg, hws, ih]
    · rw [hp] at hg
      have hne : ¬ ((k : Int) = -1) := by omega
      simp only [law07_first.B0, beqT, beqF, exF_seq, exF_region, exF_block, exF_cond, exF_ret, exF_exit, exF_skip, runL, wantL, stepL, evL, evC, LEnv.at, putL, loadFine, loadL, cellsAt, Trk.putNew, Trk.up, Trk.touch, Trk.gives, Trk.calm, Trk.hit, opdsOf, Trk.fresh, LEnv.keep, LEnv.ofFrom, List.map_cons, List.map_nil, nbeq, nble, nblt, ofAV, ofAVs, lenL, bin_add, bin_sub, bin_mul, bin_eql, bin_neq, bin_lss, bin_leq, bin_gtr, bin_geq, natL_nat, natL_zero, natL_one, natL_two, Nat.zero_mul, List.any_cons, List.any_nil, Bool.or_false, Bool.false_or, Bool.true_or, Bool.or_true, Bool.and_true, Bool.true_and, Bool.and_false, Bool.false_and, Bool.not_true, Bool.not_false, Nat.reduceBEq, Nat.reduceEqDiff, decide_true, decide_false, cond_true, cond_false, List.filter_nil, List.filter_cons, Nat.reduceAdd, Nat.reduceLeDiff, reduceCtorEq, List.length_nil, List.length_cons, Nat.mul_one, if_true, if_false, Bool.false_eq_true, eq_self, and_true, true_and, retL, resultsL, resAllL, resOfL, List.append_nil, List.nil_append, List.cons_append, true_or, or_true, false_or, or_false, false_and, and_false, not_true_eq_false, not_false_eq_true, ne_eq, unL, trim_nil, views_pures, LV.pures, LV.pure, freeze, Nat.reduceDiv, Int.reduceEq, Int.reduceLT, Int.reduceLE, Int.natCast_zero, LV.cells, allocL, List.getElem?_cons_zero, List.getElem?_cons_succ, storeL, spliceL, List.take_zero, List.take_succ_cons, List.drop_zero, List.drop_succ_cons, List.drop_nil, List.take_nil, Nat.le_refl, Nat.reduceMul, List.set_cons_zero, List.set_cons_succ, LV.scalar, List.all_cons, List.all_nil, Nat.lt_add_one, Nat.zero_lt_one, Nat.reduceLT, Nat.lt_irrefl, fillL, List.length_append, foldIntL, kind_beq, pures_int, solids_int, plains_int, unders_int, scalars_int, show ((k : Int) < (n : Int)) by omega, hg, hne]
theorem first_c (n : Nat) (hn : n < 1000000) (g : Nat) (cap : List LV) (hc : LV.pures cap = true) (p : Nat → Bool) (hg : ∀ i, i < n → ∀ m, clF LP g (.int .i64 (i : Int) :: cap) m = some (.P, .bool (p i), m)) (m : LMem) :
    clF LP n_law07_first [.int .i64 (n : Int), .func g [] cap] m = some (.P, .int .i64 (fstI p n 0), m) := by
  refine call_P lp_law07_first rfl (by simp [LV.pures, LV.pure, hc]) (m1 := []) ?_ rfl m
  have h := first_loop n hn g cap p hg n 0 (by omega)
  rw [Int.natCast_zero] at h
  by_cases hf : fstI p n 0 = -1
  · rw [if_pos hf] at h
    rw [hf]
    simp only [law07_first, law07_first.B, beqT, beqF, exF_seq, exF_region, exF_block, exF_cond, exF_ret, exF_exit, exF_skip, runL, wantL, stepL, evL, evC, LEnv.at, putL, loadFine, loadL, cellsAt, Trk.putNew, Trk.up, Trk.touch, Trk.gives, Trk.calm, Trk.hit, opdsOf, Trk.fresh, LEnv.keep, LEnv.ofFrom, List.map_cons, List.map_nil, nbeq, nble, nblt, ofAV, ofAVs, lenL, bin_add, bin_sub, bin_mul, bin_eql, bin_neq, bin_lss, bin_leq, bin_gtr, bin_geq, natL_nat, natL_zero, natL_one, natL_two, Nat.zero_mul, List.any_cons, List.any_nil, Bool.or_false, Bool.false_or, Bool.true_or, Bool.or_true, Bool.and_true, Bool.true_and, Bool.and_false, Bool.false_and, Bool.not_true, Bool.not_false, Nat.reduceBEq, Nat.reduceEqDiff, decide_true, decide_false, cond_true, cond_false, List.filter_nil, List.filter_cons, Nat.reduceAdd, Nat.reduceLeDiff, reduceCtorEq, List.length_nil, List.length_cons, Nat.mul_one, if_true, if_false, Bool.false_eq_true, eq_self, and_true, true_and, retL, resultsL, resAllL, resOfL, List.append_nil, List.nil_append, List.cons_append, true_or, or_true, false_or, or_false, false_and, and_false, not_true_eq_false, not_false_eq_true, ne_eq, unL, trim_nil, views_pures, LV.pures, LV.pure, freeze, Nat.reduceDiv, Int.reduceEq, Int.reduceLT, Int.reduceLE, Int.natCast_zero, LV.cells, allocL, List.getElem?_cons_zero, List.getElem?_cons_succ, storeL, spliceL, List.take_zero, List.take_succ_cons, List.drop_zero, List.drop_succ_cons, List.drop_nil, List.take_nil, Nat.le_refl, Nat.reduceMul, List.set_cons_zero, List.set_cons_succ, LV.scalar, List.all_cons, List.all_nil, Nat.lt_add_one, Nat.zero_lt_one, Nat.reduceLT, Nat.lt_irrefl, fillL, List.length_append, foldIntL, kind_beq, pures_int, solids_int, plains_int, unders_int, scalars_int, h]
  · rw [if_neg hf] at h
    simp only [law07_first, law07_first.B, beqT, beqF, exF_seq, exF_region, exF_block, exF_cond, exF_ret, exF_exit, exF_skip, runL, wantL, stepL, evL, evC, LEnv.at, putL, loadFine, loadL, cellsAt, Trk.putNew, Trk.up, Trk.touch, Trk.gives, Trk.calm, Trk.hit, opdsOf, Trk.fresh, LEnv.keep, LEnv.ofFrom, List.map_cons, List.map_nil, nbeq, nble, nblt, ofAV, ofAVs, lenL, bin_add, bin_sub, bin_mul, bin_eql, bin_neq, bin_lss, bin_leq, bin_gtr, bin_geq, natL_nat, natL_zero, natL_one, natL_two, Nat.zero_mul, List.any_cons, List.any_nil, Bool.or_false, Bool.false_or, Bool.true_or, Bool.or_true, Bool.and_true, Bool.true_and, Bool.and_false, Bool.false_and, Bool.not_true, Bool.not_false, Nat.reduceBEq, Nat.reduceEqDiff, decide_true, decide_false, cond_true, cond_false, List.filter_nil, List.filter_cons, Nat.reduceAdd, Nat.reduceLeDiff, reduceCtorEq, List.length_nil, List.length_cons, Nat.mul_one, if_true, if_false, Bool.false_eq_true, eq_self, and_true, true_and, retL, resultsL, resAllL, resOfL, List.append_nil, List.nil_append, List.cons_append, true_or, or_true, false_or, or_false, false_and, and_false, not_true_eq_false, not_false_eq_true, ne_eq, unL, trim_nil, views_pures, LV.pures, LV.pure, freeze, Nat.reduceDiv, Int.reduceEq, Int.reduceLT, Int.reduceLE, Int.natCast_zero, LV.cells, allocL, List.getElem?_cons_zero, List.getElem?_cons_succ, storeL, spliceL, List.take_zero, List.take_succ_cons, List.drop_zero, List.drop_succ_cons, List.drop_nil, List.take_nil, Nat.le_refl, Nat.reduceMul, List.set_cons_zero, List.set_cons_succ, LV.scalar, List.all_cons, List.all_nil, Nat.lt_add_one, Nat.zero_lt_one, Nat.reduceLT, Nat.lt_irrefl, fillL, List.length_append, foldIntL, kind_beq, pures_int, solids_int, plains_int, unders_int, scalars_int, h]
/-! ### Who envies one -/
theorem enemy1_c {rs : List Row} {o : List Int} (D : LOk rs o) (j : Nat) (hj : j < rs.length) (i : Nat) (hi : i < rs.length) (m : LMem) :
    clF LP n_law07_enemy_1 [.int .i64 (i : Int), .elt [VL false true 1 (WR (vals rs) o)] 0, .elt [.int .i64 (j : Int)] 0] m = some (.P, .bool (decide (0 < eW (vals rs) o i j)), m) := by
  refine call_P lp_law07_enemy_1 rfl (by simp [LV.pures, LV.pure]) (m1 := []) ?_ rfl m
  have hvl := vals_length rs
  have hA : (WR (vals rs) o).length = rs.length := by rw [WR_len, hvl]
  have a1 := wr_row o hi
  have a2 := wr_int o hi hi
  have a3 := wr_int o hi hj
  have al := wrow_len (vals rs) o i rs.length
  have e : decide (0 < eW (vals rs) o i j) = decide (ws (i : Int) rs[i].l o 0 < ws (j : Int) rs[i].l o 0) := by
    unfold eW
    rw [vals_at rs i hi]
    refine decide_eq_decide.2 ?_
    omega
  rw [e]
  generalize ws (i : Int) rs[i].l o 0 = x at *
  generalize ws (j : Int) rs[i].l o 0 = y at *
  by_cases c : x < y
  · simp (maxSteps := 1000000) only [law07_enemy_1, law07_enemy_1.B, beqT, beqF, exF_seq, exF_region, exF_block, exF_cond, exF_ret, exF_exit, exF_skip, runL, wantL, stepL, evL, evC, LEnv.at, putL, loadFine, loadL, cellsAt, Trk.putNew, Trk.up, Trk.touch, Trk.gives, Trk.calm, Trk.hit, opdsOf, Trk.fresh, LEnv.keep, LEnv.ofFrom, List.map_cons, List.map_nil, nbeq, nble, nblt, ofAV, ofAVs, lenL, bin_add, bin_sub, bin_mul, bin_eql, bin_neq, bin_lss, bin_leq, bin_gtr, bin_geq, natL_nat, natL_zero, natL_one, natL_two, Nat.zero_mul, List.any_cons, List.any_nil, Bool.or_false, Bool.false_or, Bool.true_or, Bool.or_true, Bool.and_true, Bool.true_and, Bool.and_false, Bool.false_and, Bool.not_true, Bool.not_false, Nat.reduceBEq, Nat.reduceEqDiff, decide_true, decide_false, cond_true, cond_false, List.filter_nil, List.filter_cons, Nat.reduceAdd, Nat.reduceLeDiff, reduceCtorEq, List.length_nil, List.length_cons, Nat.mul_one, if_true, if_false, Bool.false_eq_true, eq_self, and_true, true_and, retL, resultsL, resAllL, resOfL, List.append_nil, List.nil_append, List.cons_append, true_or, or_true, false_or, or_false, false_and, and_false, not_true_eq_false, not_false_eq_true, ne_eq, unL, trim_nil, views_pures, LV.pures, LV.pure, freeze, Nat.reduceDiv, Int.reduceEq, Int.reduceLT, Int.reduceLE, Int.natCast_zero, LV.cells, allocL, List.getElem?_cons_zero, List.getElem?_cons_succ, storeL, spliceL, List.take_zero, List.take_succ_cons, List.drop_zero, List.drop_succ_cons, List.drop_nil, List.take_nil, Nat.le_refl, Nat.reduceMul, List.set_cons_zero, List.set_cons_succ, LV.scalar, List.all_cons, List.all_nil, Nat.lt_add_one, Nat.zero_lt_one, Nat.reduceLT, Nat.lt_irrefl, fillL, List.length_append, foldIntL, kind_beq, pures_int, solids_int, plains_int, unders_int, scalars_int, hA, hi, hj, a1, a2, a3, al, c, gt_iff_lt]
  · simp (maxSteps := 1000000) only [law07_enemy_1, law07_enemy_1.B, beqT, beqF, exF_seq, exF_region, exF_block, exF_cond, exF_ret, exF_exit, exF_skip, runL, wantL, stepL, evL, evC, LEnv.at, putL, loadFine, loadL, cellsAt, Trk.putNew, Trk.up, Trk.touch, Trk.gives, Trk.calm, Trk.hit, opdsOf, Trk.fresh, LEnv.keep, LEnv.ofFrom, List.map_cons, List.map_nil, nbeq, nble, nblt, ofAV, ofAVs, lenL, bin_add, bin_sub, bin_mul, bin_eql, bin_neq, bin_lss, bin_leq, bin_gtr, bin_geq, natL_nat, natL_zero, natL_one, natL_two, Nat.zero_mul, List.any_cons, List.any_nil, Bool.or_false, Bool.false_or, Bool.true_or, Bool.or_true, Bool.and_true, Bool.true_and, Bool.and_false, Bool.false_and, Bool.not_true, Bool.not_false, Nat.reduceBEq, Nat.reduceEqDiff, decide_true, decide_false, cond_true, cond_false, List.filter_nil, List.filter_cons, Nat.reduceAdd, Nat.reduceLeDiff, reduceCtorEq, List.length_nil, List.length_cons, Nat.mul_one, if_true, if_false, Bool.false_eq_true, eq_self, and_true, true_and, retL, resultsL, resAllL, resOfL, List.append_nil, List.nil_append, List.cons_append, true_or, or_true, false_or, or_false, false_and, and_false, not_true_eq_false, not_false_eq_true, ne_eq, unL, trim_nil, views_pures, LV.pures, LV.pure, freeze, Nat.reduceDiv, Int.reduceEq, Int.reduceLT, Int.reduceLE, Int.natCast_zero, LV.cells, allocL, List.getElem?_cons_zero, List.getElem?_cons_succ, storeL, spliceL, List.take_zero, List.take_succ_cons, List.drop_zero, List.drop_succ_cons, List.drop_nil, List.take_nil, Nat.le_refl, Nat.reduceMul, List.set_cons_zero, List.set_cons_succ, LV.scalar, List.all_cons, List.all_nil, Nat.lt_add_one, Nat.zero_lt_one, Nat.reduceLT, Nat.lt_irrefl, fillL, List.length_append, foldIntL, kind_beq, pures_int, solids_int, plains_int, unders_int, scalars_int, hA, hi, hj, a1, a2, a3, al, c, gt_iff_lt]
theorem lenemy_c (nl ex nl' ex' : Bool) (sz sz' : Nat) {rs : List Row} {o : List Int} (D : LOk rs o) (j : Nat) (hj : j < rs.length) (m : LMem) : clF LP n_law07_enemy [VL nl ex sz rs, IL nl' ex' sz' o, .int .i64 (j : Int)] m = some (.P, .int .i64 (enI (vals rs) o j), m) := by
  refine call_P lp_law07_enemy rfl (by simp [LV.pures, LV.pure]) (m1 := [⟨[.int .i64 (j : Int)], true⟩, ⟨[VL false true 1 (WR (vals rs) o)], true⟩]) ?_ rfl m
  have hvl := vals_length rs
  have hw := fun m => worths_c nl ex nl' ex' sz sz' D m
  have hA : lenL (VL false true 1 (WR (vals rs) o)) = some rs.length := by show some (WR (vals rs) o).length = _; rw [WR_len, hvl]
  have hf := first_c rs.length (by have := D.le4; omega) n_law07_enemy_1 [.elt [VL false true 1 (WR (vals rs) o)] 0, .elt [.int .i64 (j : Int)] 0] (by simp [LV.pures, LV.pure]) (fun i => decide (0 < eW (vals rs) o i j)) (fun i hi m => enemy1_c D j hj i hi m) []
  have hm : clF LP n_law07_first [.int .i64 (rs.length : Int), .func n_law07_enemy_1 [] [.ptr 1 0 1, .ptr 0 0 1]] [⟨[.int .i64 (j : Int)], true⟩, ⟨[VL false true 1 (WR (vals rs) o)], true⟩] = some (.P, .int .i64 (enI (vals rs) o j), [⟨[.int .i64 (j : Int)], true⟩, ⟨[VL false true 1 (WR (vals rs) o)], true⟩]) := by
    unfold enI
    rw [hvl]
    refine call_view lp_law07_first rfl (ids := [1] ++ [0]) (views_sndq 12 _ _ _ _ _ (by omega) (fun k => view_fun2 4 k _ _ _ _ _ _ [1] [0] (fun k => ?_) (fun k => ?_) (by simp [LV.pures, LV.pure])) rfl (by simp [LV.pures, LV.pure])) (by simp [LV.pures, LV.pure]) hf rfl
    · exact view_ptrq 3 k _ 1 1 [VL false true 1 (WR (vals rs) o)] _ [] true rfl rfl (fun k => viewL_pures _ _ _ (by simp [LV.pures, LV.pure]))
    · exact view_ptrq 3 k _ 0 1 [.int .i64 (j : Int)] _ [] true rfl rfl (fun k => viewL_pures _ _ _ (by simp [LV.pures, LV.pure]))
  have hcW : (VL false true 1 (WR (vals rs) o)).cells = some [VL false true 1 (WR (vals rs) o)] := rfl
  have hsW : LV.scalar (VL false true 1 (WR (vals rs) o)) = true := rfl
  have hof0 : ofAVs [.nilslice] = [.lst true true 0 0 []] := rfl
  have hci : ∀ n : Int, (LV.int .i64 n).cells = some [.int .i64 n] := fun _ => rfl
  have hsi : ∀ n : Int, LV.scalar (.int .i64 n) = true := fun _ => rfl
  generalize VL false true 1 (WR (vals rs) o) = VW at *
  generalize VL nl ex sz rs = VV at *
  generalize IL nl' ex' sz' o = lo at *
  simp (maxSteps := 1000000) only [law07_enemy, law07_enemy.B, beqT, beqF, exF_seq, exF_region, exF_block, exF_cond, exF_ret, exF_exit, exF_skip, runL, wantL, stepL, evL, evC, LEnv.at, putL, loadFine, loadL, cellsAt, Trk.putNew, Trk.up, Trk.touch, Trk.gives, Trk.calm, Trk.hit, opdsOf, Trk.fresh, LEnv.keep, LEnv.ofFrom, List.map_cons, List.map_nil, nbeq, nble, nblt, ofAV, ofAVs, bin_add, bin_sub, bin_mul, bin_eql, bin_neq, bin_lss, bin_leq, bin_gtr, bin_geq, natL_nat, natL_zero, natL_one, natL_two, Nat.zero_mul, List.any_cons, List.any_nil, Bool.or_false, Bool.false_or, Bool.true_or, Bool.or_true, Bool.and_true, Bool.true_and, Bool.and_false, Bool.false_and, Bool.not_true, Bool.not_false, Nat.reduceBEq, Nat.reduceEqDiff, decide_true, decide_false, cond_true, cond_false, List.filter_nil, List.filter_cons, Nat.reduceAdd, Nat.reduceLeDiff, reduceCtorEq, List.length_nil, List.length_cons, Nat.mul_one, if_true, if_false, Bool.false_eq_true, eq_self, and_true, true_and, retL, resultsL, resAllL, resOfL, List.append_nil, List.nil_append, List.cons_append, true_or, or_true, false_or, or_false, false_and, and_false, not_true_eq_false, not_false_eq_true, ne_eq, unL, trim_nil, views_pures, LV.pures, LV.pure, freeze, Nat.reduceDiv, Int.reduceEq, Int.reduceLT, Int.reduceLE, Int.natCast_zero, allocL, List.getElem?_cons_zero, List.getElem?_cons_succ, storeL, spliceL, List.take_zero, List.take_succ_cons, List.drop_zero, List.drop_succ_cons, List.drop_nil, List.take_nil, Nat.le_refl, Nat.reduceMul, List.set_cons_zero, List.set_cons_succ, List.all_cons, List.all_nil, Nat.lt_add_one, Nat.zero_lt_one, Nat.reduceLT, Nat.lt_irrefl, fillL, List.length_append, foldIntL, kind_beq, pures_int, solids_int, plains_int, unders_int, scalars_int, hw, hA, hof0, hcW, hsW, hci, hsi, hm]
/-- Owners in a memory. -/
structure RMem (m : LMem) (VV : LV) (L : Nat) (o : List Int) : Prop where
  h1 : m[1]? = some ⟨[VV], true⟩
  h2 : m[2]? = some ⟨ints o, true⟩
  h3 : m[3]? = some ⟨[SLo 2 L], true⟩
theorem view_slo {m : LMem} {L : Nat} {o : List Int} (h : m[2]? = some ⟨ints o, true⟩) (ho : o.length = L) (k : Nat) : view (k + 3) m (SLo 2 L) = some (IL false true 1 o, [2]) := by
  have := view_sl k m 2 0 L L 0 o true h ho (by omega) L (Nat.le_refl _)
  rw [List.drop_zero, List.take_of_length_le (by omega)] at this
  rw [this]
  simp [nbeq]
theorem lenemy_m (nl ex : Bool) (sz : Nat) {rs : List Row} {o : List Int} (D : LOk rs o) {m : LMem} {L : Nat} (R : RMem m (VL nl ex sz rs) L o) (ho : o.length = L) (j : Nat) (hj : j < rs.length) : clF LP n_law07_enemy [VL nl ex sz rs, SLo 2 L, .int .i64 (j : Int)] m = some (.P, .int .i64 (enI (vals rs) o j), m) := by
  have hpv : (VL nl ex sz rs).pure = true := by simp only [LV.pure, pures_row]
  exact call_view lp_law07_enemy rfl (views_in m _ _ _ _ [.int .i64 (j : Int)] (view_slo R.h2 ho) hpv rfl rfl (by simp)) (by simp [LV.pures, LV.pure]) (lenemy_c nl ex false true sz 1 D j hj []) rfl
theorem rings1_c (nl ex nl' ex' : Bool) (sz sz' : Nat) {rs : List Row} {o : List Int} (D : LOk rs o) (j : Nat) (hj : j < rs.length) (m : LMem) : clF LP n_law07_ShareRings_1 [.int .i64 (j : Int), .elt [VL nl ex sz rs] 0, .elt [IL nl' ex' sz' o] 0] m = some (.P, .bool (decide (enI (vals rs) o j = -1)), m) := by
  refine call_P lp_law07_ShareRings_1 rfl (by simp [LV.pures, LV.pure]) (m1 := []) ?_ rfl m
  have he := fun m => lenemy_c nl ex nl' ex' sz sz' D j hj m
  have hge := enI_ge (vals rs) o j
  generalize enI (vals rs) o j = x at *
  generalize VL nl ex sz rs = VV at *
  generalize IL nl' ex' sz' o = lo at *
  by_cases c : x = -1
  · simp (maxSteps := 1000000) only [law07_ShareRings_1, law07_ShareRings_1.B, beqT, beqF, exF_seq, exF_region, exF_block, exF_cond, exF_ret, exF_exit, exF_skip, runL, wantL, stepL, evL, evC, LEnv.at, putL, loadFine, loadL, cellsAt, Trk.putNew, Trk.up, Trk.touch, Trk.gives, Trk.calm, Trk.hit, opdsOf, Trk.fresh, LEnv.keep, LEnv.ofFrom, List.map_cons, List.map_nil, nbeq, nble, nblt, ofAV, ofAVs, bin_add, bin_sub, bin_mul, bin_eql, bin_neq, bin_lss, bin_leq, bin_gtr, bin_geq, natL_nat, natL_zero, natL_one, natL_two, Nat.zero_mul, List.any_cons, List.any_nil, Bool.or_false, Bool.false_or, Bool.true_or, Bool.or_true, Bool.and_true, Bool.true_and, Bool.and_false, Bool.false_and, Bool.not_true, Bool.not_false, Nat.reduceBEq, Nat.reduceEqDiff, decide_true, decide_false, cond_true, cond_false, List.filter_nil, List.filter_cons, Nat.reduceAdd, Nat.reduceLeDiff, reduceCtorEq, List.length_nil, List.length_cons, Nat.mul_one, if_true, if_false, Bool.false_eq_true, eq_self, and_true, true_and, retL, resultsL, resAllL, resOfL, List.append_nil, List.nil_append, List.cons_append, true_or, or_true, false_or, or_false, false_and, and_false, not_true_eq_false, not_false_eq_true, ne_eq, unL, trim_nil, views_pures, LV.pures, LV.pure, freeze, Nat.reduceDiv, Int.reduceEq, Int.reduceLT, Int.reduceLE, Int.natCast_zero, LV.cells, allocL, List.getElem?_cons_zero, List.getElem?_cons_succ, storeL, spliceL, List.take_zero, List.take_succ_cons, List.drop_zero, List.drop_succ_cons, List.drop_nil, List.take_nil, Nat.le_refl, Nat.reduceMul, List.set_cons_zero, List.set_cons_succ, LV.scalar, List.all_cons, List.all_nil, Nat.lt_add_one, Nat.zero_lt_one, Nat.reduceLT, Nat.lt_irrefl, fillL, List.length_append, foldIntL, kind_beq, pures_int, solids_int, plains_int, unders_int, scalars_int, he, c, show ((-1 : Int) < 0) by omega]
  · simp (maxSteps := 1000000) only [law07_ShareRings_1, law07_ShareRings_1.B, beqT, beqF, exF_seq, exF_region, exF_block, exF_cond, exF_ret, exF_exit, exF_skip, runL, wantL, stepL, evL, evC, LEnv.at, putL, loadFine, loadL, cellsAt, Trk.putNew, Trk.up, Trk.touch, Trk.gives, Trk.calm, Trk.hit, opdsOf, Trk.fresh, LEnv.keep, LEnv.ofFrom, List.map_cons, List.map_nil, nbeq, nble, nblt, ofAV, ofAVs, bin_add, bin_sub, bin_mul, bin_eql, bin_neq, bin_lss, bin_leq, bin_gtr, bin_geq, natL_nat, natL_zero, natL_one, natL_two, Nat.zero_mul, List.any_cons, List.any_nil, Bool.or_false, Bool.false_or, Bool.true_or, Bool.or_true, Bool.and_true, Bool.true_and, Bool.and_false, Bool.false_and, Bool.not_true, Bool.not_false, Nat.reduceBEq, Nat.reduceEqDiff, decide_true, decide_false, cond_true, cond_false, List.filter_nil, List.filter_cons, Nat.reduceAdd, Nat.reduceLeDiff, reduceCtorEq, List.length_nil, List.length_cons, Nat.mul_one, if_true, if_false, Bool.false_eq_true, eq_self, and_true, true_and, retL, resultsL, resAllL, resOfL, List.append_nil, List.nil_append, List.cons_append, true_or, or_true, false_or, or_false, false_and, and_false, not_true_eq_false, not_false_eq_true, ne_eq, unL, trim_nil, views_pures, LV.pures, LV.pure, freeze, Nat.reduceDiv, Int.reduceEq, Int.reduceLT, Int.reduceLE, Int.natCast_zero, LV.cells, allocL, List.getElem?_cons_zero, List.getElem?_cons_succ, storeL, spliceL, List.take_zero, List.take_succ_cons, List.drop_zero, List.drop_succ_cons, List.drop_nil, List.take_nil, Nat.le_refl, Nat.reduceMul, List.set_cons_zero, List.set_cons_succ, LV.scalar, List.all_cons, List.all_nil, Nat.lt_add_one, Nat.zero_lt_one, Nat.reduceLT, Nat.lt_irrefl, fillL, List.length_append, foldIntL, kind_beq, pures_int, solids_int, plains_int, unders_int, scalars_int, he, c, show ¬ (x < 0) by omega]
theorem rings2_c (nl ex nl' ex' : Bool) (sz sz' : Nat) {rs : List Row} {o : List Int} (D : LOk rs o) (j : Nat) (hj : j < rs.length) (m : LMem) : clF LP n_law07_ShareRings_2 [.int .i64 (j : Int), .elt [VL nl ex sz rs] 0, .elt [IL nl' ex' sz' o] 0] m = some (.P, .bool (decide (enI (vals rs) o j = -1)), m) := by
  refine call_P lp_law07_ShareRings_2 rfl (by simp [LV.pures, LV.pure]) (m1 := []) ?_ rfl m
  have he := fun m => lenemy_c nl ex nl' ex' sz sz' D j hj m
  have hge := enI_ge (vals rs) o j
  generalize enI (vals rs) o j = x at *
  generalize VL nl ex sz rs = VV at *
  generalize IL nl' ex' sz' o = lo at *
  by_cases c : x = -1
  · simp (maxSteps := 1000000) only [law07_ShareRings_2, law07_ShareRings_2.B, beqT, beqF, exF_seq, exF_region, exF_block, exF_cond, exF_ret, exF_exit, exF_skip, runL, wantL, stepL, evL, evC, LEnv.at, putL, loadFine, loadL, cellsAt, Trk.putNew, Trk.up, Trk.touch, Trk.gives, Trk.calm, Trk.hit, opdsOf, Trk.fresh, LEnv.keep, LEnv.ofFrom, List.map_cons, List.map_nil, nbeq, nble, nblt, ofAV, ofAVs, bin_add, bin_sub, bin_mul, bin_eql, bin_neq, bin_lss, bin_leq, bin_gtr, bin_geq, natL_nat, natL_zero, natL_one, natL_two, Nat.zero_mul, List.any_cons, List.any_nil, Bool.or_false, Bool.false_or, Bool.true_or, Bool.or_true, Bool.and_true, Bool.true_and, Bool.and_false, Bool.false_and, Bool.not_true, Bool.not_false, Nat.reduceBEq, Nat.reduceEqDiff, decide_true, decide_false, cond_true, cond_false, List.filter_nil, List.filter_cons, Nat.reduceAdd, Nat.reduceLeDiff, reduceCtorEq, List.length_nil, List.length_cons, Nat.mul_one, if_true, if_false, Bool.false_eq_true, eq_self, and_true, true_and, retL, resultsL, resAllL, resOfL, List.append_nil, List.nil_append, List.cons_append, true_or, or_true, false_or, or_false, false_and, and_false, not_true_eq_false, not_false_eq_true, ne_eq, unL, trim_nil, views_pures, LV.pures, LV.pure, freeze, Nat.reduceDiv, Int.reduceEq, Int.reduceLT, Int.reduceLE, Int.natCast_zero, LV.cells, allocL, List.getElem?_cons_zero, List.getElem?_cons_succ, storeL, spliceL, List.take_zero, List.take_succ_cons, List.drop_zero, List.drop_succ_cons, List.drop_nil, List.take_nil, Nat.le_refl, Nat.reduceMul, List.set_cons_zero, List.set_cons_succ, LV.scalar, List.all_cons, List.all_nil, Nat.lt_add_one, Nat.zero_lt_one, Nat.reduceLT, Nat.lt_irrefl, fillL, List.length_append, foldIntL, kind_beq, pures_int, solids_int, plains_int, unders_int, scalars_int, he, c, show ((-1 : Int) < 0) by omega]
  · simp (maxSteps := 1000000) only [law07_ShareRings_2, law07_ShareRings_2.B, beqT, beqF, exF_seq, exF_region, exF_block, exF_cond, exF_ret, exF_exit, exF_skip, runL, wantL, stepL, evL, evC, LEnv.at, putL, loadFine, loadL, cellsAt, Trk.putNew, Trk.up, Trk.touch, Trk.gives, Trk.calm, Trk.hit, opdsOf, Trk.fresh, LEnv.keep, LEnv.ofFrom, List.map_cons, List.map_nil, nbeq, nble, nblt, ofAV, ofAVs, bin_add, bin_sub, bin_mul, bin_eql, bin_neq, bin_lss, bin_leq, bin_gtr, bin_geq, natL_nat, natL_zero, natL_one, natL_two, Nat.zero_mul, List.any_cons, List.any_nil, Bool.or_false, Bool.false_or, Bool.true_or, Bool.or_true, Bool.and_true, Bool.true_and, Bool.and_false, Bool.false_and, Bool.not_true, Bool.not_false, Nat.reduceBEq, Nat.reduceEqDiff, decide_true, decide_false, cond_true, cond_false, List.filter_nil, List.filter_cons, Nat.reduceAdd, Nat.reduceLeDiff, reduceCtorEq, List.length_nil, List.length_cons, Nat.mul_one, if_true, if_false, Bool.false_eq_true, eq_self, and_true, true_and, retL, resultsL, resAllL, resOfL, List.append_nil, List.nil_append, List.cons_append, true_or, or_true, false_or, or_false, false_and, and_false, not_true_eq_false, not_false_eq_true, ne_eq, unL, trim_nil, views_pures, LV.pures, LV.pure, freeze, Nat.reduceDiv, Int.reduceEq, Int.reduceLT, Int.reduceLE, Int.natCast_zero, LV.cells, allocL, List.getElem?_cons_zero, List.getElem?_cons_succ, storeL, spliceL, List.take_zero, List.take_succ_cons, List.drop_zero, List.drop_succ_cons, List.drop_nil, List.take_nil, Nat.le_refl, Nat.reduceMul, List.set_cons_zero, List.set_cons_succ, LV.scalar, List.all_cons, List.all_nil, Nat.lt_add_one, Nat.zero_lt_one, Nat.reduceLT, Nat.lt_irrefl, fillL, List.length_append, foldIntL, kind_beq, pures_int, solids_int, plains_int, unders_int, scalars_int, he, c, show ¬ (x < 0) by omega]
theorem lcalm_m (nl ex : Bool) (sz : Nat) {rs : List Row} {o : List Int} (D : LOk rs o) {m : LMem} {L : Nat} (R : RMem m (VL nl ex sz rs) L o) (ho : o.length = L) (g : Nat) (hg : g = n_law07_ShareRings_1 ∨ g = n_law07_ShareRings_2) : clF LP n_law07_first [.int .i64 (rs.length : Int), .func g [] [.ptr 1 0 1, .ptr 3 0 1]] m = some (.P, .int .i64 (calmI (vals rs) o), m) := by
  have hvl := vals_length rs
  have hf := first_c rs.length (by have := D.le4; omega) g [.elt [VL nl ex sz rs] 0, .elt [IL false true 1 o] 0] (by simp [LV.pures, LV.pure]) (fun j => decide (enI (vals rs) o j = -1)) (fun j hj m => by
    rcases hg with rfl | rfl
    · exact rings1_c nl ex false true sz 1 D j hj m
    · exact rings2_c nl ex false true sz 1 D j hj m) []
  unfold calmI
  rw [hvl]
  refine call_view lp_law07_first rfl (ids := [1] ++ [3, 2]) (views_sndq 17 _ _ _ _ _ (by omega) (fun k => view_fun2 9 k _ _ _ _ _ _ [1] [3, 2] (fun k => ?_) (fun k => ?_) (by simp [LV.pures, LV.pure])) rfl (by simp [LV.pures, LV.pure])) (by simp [LV.pures, LV.pure]) hf rfl
  · exact view_ptrq 8 k _ 1 1 [VL nl ex sz rs] _ [] true R.h1 rfl (fun k => viewL_pures _ _ _ (by simp [LV.pures, LV.pure]))
  · exact view_ptrq 8 k _ 3 1 [SLo 2 L] _ [2] true R.h3 rfl (fun k => views_one k m _ _ _ (view_slo R.h2 ho) (by simp [LV.pures, LV.pure]))
end Go.Am.Share

/-
  What functions of chapter 07 compute, 19: the program turns a ring.
-/
set_option linter.unusedVariables false
set_option linter.unusedSimpArgs false
set_option maxRecDepth 10000
namespace Go.Am.Share
def mapFrom (f : Int → Int) : Nat → Nat → List Int → List Int
  | 0, _, c => c
  | n + 1, k, c => mapFrom f n (k + 1) (c.set k (f (c.getD k 0)))
theorem mapFrom_eq (f : Int → Int) : ∀ (n k : Nat) (c : List Int), k + n = c.length → mapFrom f n k c = c.take k ++ (c.drop k).map f
  | 0, k, c, h => by
    rw [mapFrom, List.drop_eq_nil_of_le (by omega), List.take_of_length_le (by omega)]; simp
  | n + 1, k, c, h => by
    have hk : k < c.length := by omega
    rw [mapFrom, mapFrom_eq f n (k + 1) _ (by simp; omega), List.drop_eq_getElem_cons hk]
    have h1 : c.getD k 0 = c[k] := by simp [List.getD_eq_getElem?_getD, hk]
    rw [h1, List.set_eq_take_append_cons_drop, if_pos hk]
    have e1 : (c.take k ++ f c[k] :: c.drop (k + 1)).take (k + 1) = c.take k ++ [f c[k]] := by
      rw [List.take_append, List.length_take, show k + 1 - min k c.length = 1 by omega, List.take_take, show min (k + 1) k = k by omega]
      simp
    have e2 : (c.take k ++ f c[k] :: c.drop (k + 1)).drop (k + 1) = c.drop (k + 1) := by
      rw [List.drop_append, List.length_take, show k + 1 - min k c.length = 1 by omega, List.drop_eq_nil_of_le (by simp; omega)]
      simp
    rw [e1, e2, List.map_cons, List.append_assoc]
    rfl
/-- The memory while owners are replaced. -/
abbrev RM (V : LV) (L : Nat) (c l : List Int) : LMem := [⟨[V, SLo 1 L], true⟩, ⟨c.map (LV.int .i64), true⟩, ⟨[V, SLo 1 L], true⟩, ⟨[V, SLo 1 L], true⟩, ⟨l.map (LV.int .i64), true⟩]
theorem take_drop_all (l : List Int) (p n : Nat) (h : p + n = l.length) : (l.drop p).take n = l.drop p := List.take_of_length_le (by simp; omega)
theorem nx_in {l : List Int} {p n : Nat} (h : p + n = l.length) (hn : 0 < n) {x : Int} (hx : x ∈ l.drop p) : nxI (l.drop p) x = l.getD (p + ((l.drop p).idxOf x + 1) % n) 0 := by
  have hl : (l.drop p).length = n := by simp; omega
  unfold nxI
  rw [if_pos hx, hl]
  simp only [List.getD_eq_getElem?_getD, List.getElem?_drop]
theorem give_loop (V : LV) (L : Nat) (hL : L ≤ 6) (l : List Int) (hll : l.length ≤ 100) (p n : Nat) (hp : p + n = l.length) (hn : 0 < n) (r : Nat) : ∀ (k : Nat) (c : List Int), k + r = L → c.length = L →
    exF LP share_division_turn.L1 [(1, .ptr 3 0 2), (5, .sl 4 p n n 1 1 l.length), (34, SLo 1 L), (35, .int .i64 (L : Int)), (36, .int .i64 (k : Int))] (RM V L c l) =
      some (.exit 2, [], RM V L (mapFrom (nxI (l.drop p)) r k c) l) := by
  induction r with
  | zero =>
    intro k c hk hc
    rw [share_division_turn.L1_eq]
    simp only [share_division_turn.B1, beqT, beqF, exF_seq, exF_region, exF_block, exF_cond, exF_ret, exF_exit, exF_skip, runL, wantL, stepL, evL, evC, LEnv.at, putL, loadFine, loadL, cellsAt, Trk.putNew, Trk.up, Trk.touch, Trk.gives, Trk.calm, Trk.hit, opdsOf, Trk.fresh, LEnv.keep, LEnv.ofFrom, List.map_cons, List.map_nil, nbeq, nble, nblt, ofAV, ofAVs, lenL, bin_add, bin_sub, bin_mul, bin_eql, bin_neq, bin_lss, bin_leq, bin_gtr, bin_geq, natL_nat, natL_zero, natL_one, natL_two, Nat.zero_mul, List.any_cons, List.any_nil, Bool.or_false, Bool.false_or, Bool.true_or, Bool.or_true, Bool.and_true, Bool.true_and, Bool.and_false, Bool.false_and, Bool.not_true, Bool.not_false, Nat.reduceBEq, Nat.reduceEqDiff, decide_true, decide_false, cond_true, cond_false, List.filter_nil, List.filter_cons, Nat.reduceAdd, Nat.reduceLeDiff, reduceCtorEq, List.length_nil, List.length_cons, Nat.mul_one, if_true, if_false, Bool.false_eq_true, eq_self, and_true, true_and, retL, resultsL, resAllL, resOfL, List.append_nil, List.nil_append, List.cons_append, true_or, or_true, false_or, or_false, false_and, and_false, not_true_eq_false, not_false_eq_true, ne_eq, unL, trim_nil, views_pures, LV.pures, LV.pure, freeze, Nat.reduceDiv, Int.reduceEq, Int.reduceLT, Int.reduceLE, Int.natCast_zero, LV.cells, allocL, List.getElem?_cons_zero, List.getElem?_cons_succ, storeL, spliceL, List.take_zero, List.take_succ_cons, List.drop_zero, List.drop_succ_cons, List.drop_nil, List.take_nil, Nat.le_refl, Nat.reduceMul, List.set_cons_zero, List.set_cons_succ, LV.scalar, List.all_cons, List.all_nil, Nat.lt_add_one, Nat.zero_lt_one, Nat.reduceLT, Nat.lt_irrefl, fillL, List.length_append, foldIntL, kind_beq, pures_int, solids_int, plains_int, unders_int, scalars_int, show ¬ ((k : Int) < (L : Int)) by omega, mapFrom]
  | succ r ih =>
    intro k c hk hc
    have h2 : k < c.length := by omega
    have h3 : k < L := by omega
    have hx : c.getD k 0 = c[k] := by simp [List.getD_eq_getElem?_getD, h2]
    have hi := index_m (m := RM V L c l) (i := 4) (p := p) (n := n) (g := 1) (b := true) (cs := l) rfl rfl (by omega) (by omega) c[k]
    rw [take_drop_all l p n hp, idxI_eq] at hi
    rw [share_division_turn.L1_eq, mapFrom, hx]
    by_cases hm : c[k] ∈ l.drop p
    · rw [if_pos hm] at hi
      have hj : (l.drop p).idxOf c[k] < n := by
        have := idx_lt hm
        simp at this; omega
      have hnx := nx_in hp hn hm
      rw [hnx]
      generalize (l.drop p).idxOf c[k] = j at *
      have hq : (j + 1) % n < n := Nat.mod_lt _ hn
      have hq2 : p + (j + 1) % n < l.length := by omega
      have hv : l.getD (p + (j + 1) % n) 0 = l[p + (j + 1) % n] := by simp [List.getD_eq_getElem?_getD, hq2]
      have ih := ih (k + 1) (c.set k (l.getD (p + (j + 1) % n) 0)) (by omega) (by simpa using hc)
      rw [hv] at ih ⊢
      have hne : ((n : Nat) : Int) ≠ 0 := by omega
      have hge : (0 : Int) ≤ (j : Int) := by omega
      rw [Nat.zero_add] at hi
      simp only [share_division_turn.B1, beqT, beqF, exF_seq, exF_region, exF_block, exF_cond, exF_ret, exF_exit, exF_skip, runL, wantL, stepL, evL, evC, LEnv.at, putL, loadFine, loadL, cellsAt, Trk.putNew, Trk.up, Trk.touch, Trk.gives, Trk.calm, Trk.hit, opdsOf, Trk.fresh, LEnv.keep, LEnv.ofFrom, List.map_cons, List.map_nil, nbeq, nble, nblt, ofAV, ofAVs, lenL, bin_add, bin_sub, bin_mul, bin_eql, bin_neq, bin_lss, bin_leq, bin_gtr, bin_geq, natL_nat, natL_zero, natL_one, natL_two, Nat.zero_mul, List.any_cons, List.any_nil, Bool.or_false, Bool.false_or, Bool.true_or, Bool.or_true, Bool.and_true, Bool.true_and, Bool.and_false, Bool.false_and, Bool.not_true, Bool.not_false, Nat.reduceBEq, Nat.reduceEqDiff, decide_true, decide_false, cond_true, cond_false, List.filter_nil, List.filter_cons, Nat.reduceAdd, Nat.reduceLeDiff, reduceCtorEq, List.length_nil, List.length_cons, Nat.mul_one, if_true, if_false, Bool.false_eq_true, eq_self, and_true, true_and, retL, resultsL, resAllL, resOfL, List.append_nil, List.nil_append, List.cons_append, true_or, or_true, false_or, or_false, false_and, and_false, not_true_eq_false, not_false_eq_true, ne_eq, unL, trim_nil, views_pures, LV.pures, LV.pure, freeze, Nat.reduceDiv, Int.reduceEq, Int.reduceLT, Int.reduceLE, Int.natCast_zero, LV.cells, allocL, List.getElem?_cons_zero, List.getElem?_cons_succ, storeL, spliceL, List.take_zero, List.take_succ_cons, List.drop_zero, List.drop_succ_cons, List.drop_nil, List.take_nil, Nat.le_refl, Nat.reduceMul, List.set_cons_zero, List.set_cons_succ, LV.scalar, List.all_cons, List.all_nil, Nat.lt_add_one, Nat.zero_lt_one, Nat.reduceLT, Nat.lt_irrefl, fillL, List.length_append, foldIntL, kind_beq, pures_int, solids_int, plains_int, unders_int, scalars_int, show ((k : Int) < (L : Int)) by omega, h2, h3, hc, int_at _ _ _ h2, Nat.zero_add, List.length_map, hi, hge, wrap_succ (show j + 1 < 9223372036854775808 by omega), bin_rem _ _ _ hne, tmod_nat, hq, hq2, int_at _ _ _ hq2, set_int _ _ _ _ h2, show k + 1 ≤ L by omega, wrap_succ (show k + 1 < 9223372036854775808 by omega), ih]
    · rw [if_neg hm] at hi
      have hnx : nxI (l.drop p) c[k] = c[k] := by unfold nxI; rw [if_neg hm]
      rw [hnx, List.set_getElem_self]
      have ih := ih (k + 1) c (by omega) hc
      simp only [share_division_turn.B1, beqT, beqF, exF_seq, exF_region, exF_block, exF_cond, exF_ret, exF_exit, exF_skip, runL, wantL, stepL, evL, evC, LEnv.at, putL, loadFine, loadL, cellsAt, Trk.putNew, Trk.up, Trk.touch, Trk.gives, Trk.calm, Trk.hit, opdsOf, Trk.fresh, LEnv.keep, LEnv.ofFrom, List.map_cons, List.map_nil, nbeq, nble, nblt, ofAV, ofAVs, lenL, bin_add, bin_sub, bin_mul, bin_eql, bin_neq, bin_lss, bin_leq, bin_gtr, bin_geq, natL_nat, natL_zero, natL_one, natL_two, Nat.zero_mul, List.any_cons, List.any_nil, Bool.or_false, Bool.false_or, Bool.true_or, Bool.or_true, Bool.and_true, Bool.true_and, Bool.and_false, Bool.false_and, Bool.not_true, Bool.not_false, Nat.reduceBEq, Nat.reduceEqDiff, decide_true, decide_false, cond_true, cond_false, List.filter_nil, List.filter_cons, Nat.reduceAdd, Nat.reduceLeDiff, reduceCtorEq, List.length_nil, List.length_cons, Nat.mul_one, if_true, if_false, Bool.false_eq_true, eq_self, and_true, true_and, retL, resultsL, resAllL, resOfL, List.append_nil, List.nil_append, List.cons_append, true_or, or_true, false_or, or_false, false_and, and_false, not_true_eq_false, not_false_eq_true, ne_eq, unL, trim_nil, views_pures, LV.pures, LV.pure, freeze, Nat.reduceDiv, Int.reduceEq, Int.reduceLT, Int.reduceLE, Int.natCast_zero, LV.cells, allocL, List.getElem?_cons_zero, List.getElem?_cons_succ, storeL, spliceL, List.take_zero, List.take_succ_cons, List.drop_zero, List.drop_succ_cons, List.drop_nil, List.take_nil, Nat.le_refl, Nat.reduceMul, List.set_cons_zero, List.set_cons_succ, LV.scalar, List.all_cons, List.all_nil, Nat.lt_add_one, Nat.zero_lt_one, Nat.reduceLT, Nat.lt_irrefl, fillL, List.length_append, foldIntL, kind_beq, pures_int, solids_int, plains_int, unders_int, scalars_int, show ((k : Int) < (L : Int)) by omega, h2, h3, hc, int_at _ _ _ h2, Nat.zero_add, List.length_map, hi, wrap_succ (show k + 1 < 9223372036854775808 by omega), ih]
theorem walk_facts {V : List (List Int)} {o : List Int} (hV : 0 < V.length) (h : calmI V o = -1) : WOk (fun x => enI V o x.toNat) V.length (wlk (fun x => enI V o x.toNat) (V.length + 1) [] 0).1 (wlk (fun x => enI V o x.toNat) (V.length + 1) [] 0).2 ∧ (wlk (fun x => enI V o x.toNat) (V.length + 1) [] 0).2 ∈ (wlk (fun x => enI V o x.toNat) (V.length + 1) [] 0).1 := by
  have H : WOk (fun x => enI V o x.toNat) V.length [] 0 := ⟨by simp, by simp, by omega, by simp, by simp⟩
  exact wlk_ok (en_rng h) (V.length + 1) [] 0 H (by simp)
theorem turn_c (nl ex : Bool) (sz : Nat) {rs : List Row} {o : List Int} (D : DOk rs o) (hc : calmI (vals rs) o = -1) :
    clF LP n_share_division_turn [.agg [VL nl ex sz rs, SLo 1 o.length]] (TM (VL nl ex sz rs) o) = some (.W, .tup [], TM (VL nl ex sz rs) (turnI (vals rs) o)) := by
  have h4 := D.le4
  have h6 := D.le6
  have hpos := D.pos
  obtain ⟨W, hw⟩ := walk_facts (by rw [vals_length]; exact hpos) hc
  have hloop := walk_loop nl ex sz D hc (rs.length + 1) [] 0 ⟨by simp, by simp, by omega, by simp, by simp⟩ (by simp)
  unfold turnI turnedBy ringI
  rw [vals_length] at W hw ⊢
  generalize wlk (fun x => enI (vals rs) o x.toNat) (rs.length + 1) [] 0 = lw at *
  obtain ⟨l, w⟩ := lw
  simp only at W hw hloop ⊢
  have hlen := nodup_le rs.length l W.nd W.rng
  have hne : l ≠ [] := by intro c; subst c; cases hw
  have hpl : 0 < l.length := List.length_pos_iff.2 hne
  have hlast := W.last hne
  have hlm : l.length - 1 < l.length := by omega
  have hlv : l.getD (l.length - 1) 0 = l[l.length - 1] := by simp [List.getD_eq_getElem?_getD, hlm]
  rw [hlv] at hlast
  have hl0 := W.rng _ (List.getElem_mem hlm)
  rw [ringOf_drop w l hw]
  have hidx := idx_lt hw
  have hring : (l.drop (l.idxOf w)) ≠ [] := by intro c; have := congrArg List.length c; simp at this; omega
  have he := enemy_m nl ex sz D (m := RM (VL nl ex sz rs) o.length o l) (i := 1) (b := true) rfl rfl hl0.1
  rw [← hlast] at he
  have hi := index_m (m := RM (VL nl ex sz rs) o.length o l) (i := 4) (p := 0) (n := l.length) (g := 1) (b := true) (cs := l) rfl rfl (by omega) (by omega) w
  rw [List.drop_zero, List.take_length, idxI_eq, if_pos hw, Nat.zero_add] at hi
  have hg := give_loop (VL nl ex sz rs) o.length h6 l (by omega) (l.idxOf w) (l.length - l.idxOf w) (by omega) (by omega) o.length 0 o (by omega) rfl
  rw [mapFrom_eq _ _ _ _ (by omega), List.take_zero, List.drop_zero, List.nil_append] at hg
  rw [GV_nil] at hloop
  have hloop : exF LP share_division_turn.L0 [(1, .ptr 3 0 2), (2, LNIL), (3, .int .i64 0)] [⟨[VL nl ex sz rs, SLo 1 o.length], true⟩, ⟨o.map (LV.int .i64), true⟩, ⟨[VL nl ex sz rs, SLo 1 o.length], true⟩, ⟨[VL nl ex sz rs, SLo 1 o.length], true⟩] = some (.exit 0, [(1, .ptr 3 0 2), (2, GV 4 l)], RB (VL nl ex sz rs) o l) := hloop
  have e1 : GV 4 l = .sl 4 0 l.length l.length 1 1 l.length := by simp [GV, hne]
  have e2 : RB (VL nl ex sz rs) o l = RM (VL nl ex sz rs) o.length o l := by simp [RB, GM, hne]
  rw [e1, e2] at hloop
  have hw1 : IntKind.i64.wrap ((l.length : Int) - 1) = ((l.length - 1 : Nat) : Int) := by rw [wrap_in (by omega)]; omega
  have hsl : sliceL 1 (.sl 4 0 l.length l.length 1 1 l.length) (some (.int .i64 ((l.idxOf w : Nat) : Int))) none none = some (.sl 4 (l.idxOf w) (l.length - l.idxOf w) (l.length - l.idxOf w) 1 1 l.length) := by
    have hle : l.idxOf w ≤ l.length := by omega
    simp [sliceL, optNatL, natL_nat, nble, nbeq, hle]
  generalize l.idxOf w = p at *
  have hml : (o.map (nxI (l.drop p))).length = o.length := by simp
  generalize o.map (nxI (l.drop p)) = o2 at *
  simp only [TM, hml]
  rw [clF_eq, lp_share_division_turn]
  simp only [callMode, share_division_turn, Int.natCast_zero] at hg ⊢
  simp only [share_division_turn.B, beqT, beqF, exF_seq, exF_region, exF_block, exF_cond, exF_ret, exF_exit, exF_skip, runL, wantL, stepL, evL, evC, LEnv.at, putL, loadFine, loadL, cellsAt, Trk.putNew, Trk.up, Trk.touch, Trk.gives, Trk.calm, Trk.hit, opdsOf, Trk.fresh, LEnv.keep, LEnv.ofFrom, List.map_cons, List.map_nil, nbeq, nble, nblt, ofAV, ofAVs, lenL, bin_add, bin_sub, bin_mul, bin_eql, bin_neq, bin_lss, bin_leq, bin_gtr, bin_geq, natL_nat, natL_zero, natL_one, natL_two, Nat.zero_mul, List.any_cons, List.any_nil, Bool.or_false, Bool.false_or, Bool.true_or, Bool.or_true, Bool.and_true, Bool.true_and, Bool.and_false, Bool.false_and, Bool.not_true, Bool.not_false, Nat.reduceBEq, Nat.reduceEqDiff, decide_true, decide_false, cond_true, cond_false, List.filter_nil, List.filter_cons, Nat.reduceAdd, Nat.reduceLeDiff, reduceCtorEq, List.length_nil, List.length_cons, Nat.mul_one, if_true, if_false, Bool.false_eq_true, eq_self, and_true, true_and, retL, resultsL, resAllL, resOfL, List.append_nil, List.nil_append, List.cons_append, true_or, or_true, false_or, or_false, false_and, and_false, not_true_eq_false, not_false_eq_true, ne_eq, unL, trim_nil, views_pures, LV.pures, LV.pure, freeze, Nat.reduceDiv, Int.reduceEq, Int.reduceLT, Int.reduceLE, Int.natCast_zero, LV.cells, allocL, List.getElem?_cons_zero, List.getElem?_cons_succ, storeL, spliceL, List.take_zero, List.take_succ_cons, List.drop_zero, List.drop_succ_cons, List.drop_nil, List.take_nil, Nat.le_refl, Nat.reduceMul, List.set_cons_zero, List.set_cons_succ, LV.scalar, List.all_cons, List.all_nil, Nat.lt_add_one, Nat.zero_lt_one, Nat.reduceLT, Nat.lt_irrefl, fillL, foldIntL, kind_beq, pures_int, solids_int, plains_int, unders_int, scalars_int, RM, hloop, he, hi, hg, Option.map_some, Option.map_none, hsl, hlm, hw1, int_at _ _ _ hlm, Nat.zero_add, List.length_map]
  simp [trim, belowM, LV.unders, LV.under, unders_int, nblt]
end Go.Am.Share

/-
  What functions of chapter 07 compute, 20: the program's divisions one after the other.
-/
set_option linter.unusedVariables false
set_option linter.unusedSimpArgs false
set_option maxRecDepth 10000
namespace Go.Am.Share
theorem DOk.of_len {rs : List Row} {o o' : List Int} (D : DOk rs o) (h : o'.length = o.length) : DOk rs o' :=
  ⟨D.pos, D.le4, fun i hi => by rw [h]; exact D.len i hi, D.ok, by rw [h]; exact D.le6⟩
theorem turnI_length (V : List (List Int)) (o : List Int) : (turnI V o).length = o.length := by simp [turnI, turnedBy]
theorem settle_length (V : List (List Int)) : ∀ (n : Nat) (o : List Int), (settle V n o).length = o.length
  | 0, o => rfl
  | n + 1, o => by
    rw [settle]
    split
    · rw [settle_length V n, turnI_length]
    · rfl
theorem ringsI_length (V : List (List Int)) : ∀ (n k : Nat) (o : List Int), (ringsI V n k o).length = o.length
  | 0, _, o => rfl
  | n + 1, k, o => by rw [ringsI, ringsI_length V n, List.length_set, settle_length]
theorem DOk.own {rs : List Row} {o : List Int} (D : DOk rs o) : 0 ≤ ownS (vals rs) o ∧ ownS (vals rs) o ≤ 480 := by
  have h6 := D.le6
  refine ownS_le ?_ ?_ (by rw [vals_length]; exact D.le4)
  · intro i hi
    rw [vals_length] at hi
    rw [vals_at rs i hi]; exact D.ok i hi
  · intro i hi
    rw [vals_length] at hi
    rw [vals_at rs i hi, ← D.len i hi]; exact h6
theorem settle_loop (nl ex : Bool) (sz : Nat) {rs : List Row} (k L : Int) (n : Nat) : ∀ (o : List Int), DOk rs o → 480 - ownS (vals rs) o < n →
    exF LP share_Rings.L0 [(5, .ptr 2 0 2), (6, .int .i64 k), (7, .int .i64 (calmI (vals rs) o)), (17, .int .i64 L), (18, .int .i64 k)] (TM (VL nl ex sz rs) o) =
      some (.exit 2, [(5, .ptr 2 0 2), (6, .int .i64 k), (7, .int .i64 (calmI (vals rs) (settle (vals rs) n o))), (17, .int .i64 L), (18, .int .i64 k)], TM (VL nl ex sz rs) (settle (vals rs) n o)) := by
  induction n with
  | zero => intro o D h; have := D.own; omega
  | succ n ih =>
    intro o D h
    rw [share_Rings.L0_eq, settle]
    by_cases hc : calmI (vals rs) o = -1
    · rw [if_pos hc]
      have D2 := D.of_len (turnI_length (vals rs) o)
      have hlt := ownS_lt (by rw [vals_length]; exact D.pos) hc
      have ih := ih (turnI (vals rs) o) D2 (by omega)
      have ht := turn_c nl ex sz D hc
      have hm := calm_m nl ex sz D2 (m := TM (VL nl ex sz rs) (turnI (vals rs) o)) (i := 1) (b := true) rfl rfl
      simp only [TM, turnI_length] at ht hm ih ⊢
      simp only [share_Rings.B0, beqT, beqF, exF_seq, exF_region, exF_block, exF_cond, exF_ret, exF_exit, exF_skip, runL, wantL, stepL, evL, evC, LEnv.at, putL, loadFine, loadL, cellsAt, Trk.putNew, Trk.up, Trk.touch, Trk.gives, Trk.calm, Trk.hit, opdsOf, Trk.fresh, LEnv.keep, LEnv.ofFrom, List.map_cons, List.map_nil, nbeq, nble, nblt, ofAV, ofAVs, lenL, bin_add, bin_sub, bin_mul, bin_eql, bin_neq, bin_lss, bin_leq, bin_gtr, bin_geq, natL_nat, natL_zero, natL_one, natL_two, Nat.zero_mul, List.any_cons, List.any_nil, Bool.or_false, Bool.false_or, Bool.true_or, Bool.or_true, Bool.and_true, Bool.true_and, Bool.and_false, Bool.false_and, Bool.not_true, Bool.not_false, Nat.reduceBEq, Nat.reduceEqDiff, decide_true, decide_false, cond_true, cond_false, List.filter_nil, List.filter_cons, Nat.reduceAdd, Nat.reduceLeDiff, reduceCtorEq, List.length_nil, List.length_cons, Nat.mul_one, if_true, if_false, Bool.false_eq_true, eq_self, and_true, true_and, retL, resultsL, resAllL, resOfL, List.append_nil, List.nil_append, List.cons_append, true_or, or_true, false_or, or_false, false_and, and_false, not_true_eq_false, not_false_eq_true, ne_eq, unL, trim_nil, views_pures, LV.pures, LV.pure, freeze, Nat.reduceDiv, Int.reduceEq, Int.reduceLT, Int.reduceLE, Int.natCast_zero, LV.cells, allocL, List.getElem?_cons_zero, List.getElem?_cons_succ, storeL, spliceL, List.take_zero, List.take_succ_cons, List.drop_zero, List.drop_succ_cons, List.drop_nil, List.take_nil, Nat.le_refl, Nat.reduceMul, List.set_cons_zero, List.set_cons_succ, LV.scalar, List.all_cons, List.all_nil, Nat.lt_add_one, Nat.zero_lt_one, Nat.reduceLT, Nat.lt_irrefl, fillL, List.length_append, foldIntL, kind_beq, pures_int, solids_int, plains_int, unders_int, scalars_int, hc, ht, hm, ih]
    · rw [if_neg hc]
      simp only [share_Rings.B0, beqT, beqF, exF_seq, exF_region, exF_block, exF_cond, exF_ret, exF_exit, exF_skip, runL, wantL, stepL, evL, evC, LEnv.at, putL, loadFine, loadL, cellsAt, Trk.putNew, Trk.up, Trk.touch, Trk.gives, Trk.calm, Trk.hit, opdsOf, Trk.fresh, LEnv.keep, LEnv.ofFrom, List.map_cons, List.map_nil, nbeq, nble, nblt, ofAV, ofAVs, lenL, bin_add, bin_sub, bin_mul, bin_eql, bin_neq, bin_lss, bin_leq, bin_gtr, bin_geq, natL_nat, natL_zero, natL_one, natL_two, Nat.zero_mul, List.any_cons, List.any_nil, Bool.or_false, Bool.false_or, Bool.true_or, Bool.or_true, Bool.and_true, Bool.true_and, Bool.and_false, Bool.false_and, Bool.not_true, Bool.not_false, Nat.reduceBEq, Nat.reduceEqDiff, decide_true, decide_false, cond_true, cond_false, List.filter_nil, List.filter_cons, Nat.reduceAdd, Nat.reduceLeDiff, reduceCtorEq, List.length_nil, List.length_cons, Nat.mul_one, if_true, if_false, Bool.false_eq_true, eq_self, and_true, true_and, retL, resultsL, resAllL, resOfL, List.append_nil, List.nil_append, List.cons_append, true_or, or_true, false_or, or_false, false_and, and_false, not_true_eq_false, not_false_eq_true, ne_eq, unL, trim_nil, views_pures, LV.pures, LV.pure, freeze, Nat.reduceDiv, Int.reduceEq, Int.reduceLT, Int.reduceLE, Int.natCast_zero, LV.cells, allocL, List.getElem?_cons_zero, List.getElem?_cons_succ, storeL, spliceL, List.take_zero, List.take_succ_cons, List.drop_zero, List.drop_succ_cons, List.drop_nil, List.take_nil, Nat.le_refl, Nat.reduceMul, List.set_cons_zero, List.set_cons_succ, LV.scalar, List.all_cons, List.all_nil, Nat.lt_add_one, Nat.zero_lt_one, Nat.reduceLT, Nat.lt_irrefl, fillL, List.length_append, foldIntL, kind_beq, pures_int, solids_int, plains_int, unders_int, scalars_int, hc]
theorem rings_loop (nl ex : Bool) (sz : Nat) {rs : List Row} (n : Nat) : ∀ (k : Nat) (o : List Int), DOk rs o → k + n = o.length →
    exF LP share_Rings.L1 [(5, .ptr 2 0 2), (17, .int .i64 (o.length : Int)), (18, .int .i64 (k : Int))] (TM (VL nl ex sz rs) o) =
      some (.exit 0, [(5, .ptr 2 0 2)], TM (VL nl ex sz rs) (ringsI (vals rs) n k o)) := by
  induction n with
  | zero =>
    intro k o D hk
    rw [share_Rings.L1_eq]
    simp only [share_Rings.B1, beqT, beqF, exF_seq, exF_region, exF_block, exF_cond, exF_ret, exF_exit, exF_skip, runL, wantL, stepL, evL, evC, LEnv.at, putL, loadFine, loadL, cellsAt, Trk.putNew, Trk.up, Trk.touch, Trk.gives, Trk.calm, Trk.hit, opdsOf, Trk.fresh, LEnv.keep, LEnv.ofFrom, List.map_cons, List.map_nil, nbeq, nble, nblt, ofAV, ofAVs, lenL, bin_add, bin_sub, bin_mul, bin_eql, bin_neq, bin_lss, bin_leq, bin_gtr, bin_geq, natL_nat, natL_zero, natL_one, natL_two, Nat.zero_mul, List.any_cons, List.any_nil, Bool.or_false, Bool.false_or, Bool.true_or, Bool.or_true, Bool.and_true, Bool.true_and, Bool.and_false, Bool.false_and, Bool.not_true, Bool.not_false, Nat.reduceBEq, Nat.reduceEqDiff, decide_true, decide_false, cond_true, cond_false, List.filter_nil, List.filter_cons, Nat.reduceAdd, Nat.reduceLeDiff, reduceCtorEq, List.length_nil, List.length_cons, Nat.mul_one, if_true, if_false, Bool.false_eq_true, eq_self, and_true, true_and, retL, resultsL, resAllL, resOfL, List.append_nil, List.nil_append, List.cons_append, true_or, or_true, false_or, or_false, false_and, and_false, not_true_eq_false, not_false_eq_true, ne_eq, unL, trim_nil, views_pures, LV.pures, LV.pure, freeze, Nat.reduceDiv, Int.reduceEq, Int.reduceLT, Int.reduceLE, Int.natCast_zero, LV.cells, allocL, List.getElem?_cons_zero, List.getElem?_cons_succ, storeL, spliceL, List.take_zero, List.take_succ_cons, List.drop_zero, List.drop_succ_cons, List.drop_nil, List.take_nil, Nat.le_refl, Nat.reduceMul, List.set_cons_zero, List.set_cons_succ, LV.scalar, List.all_cons, List.all_nil, Nat.lt_add_one, Nat.zero_lt_one, Nat.reduceLT, Nat.lt_irrefl, fillL, List.length_append, foldIntL, kind_beq, pures_int, solids_int, plains_int, unders_int, scalars_int, show ¬ ((k : Int) < (o.length : Int)) by omega, ringsI]
  | succ n ih =>
    intro k o D hk
    have h6 := D.le6
    have hs := settle_loop nl ex sz (k : Int) (o.length : Int) 500 o D (by have := D.own; omega)
    have hm := calm_m nl ex sz D (m := TM (VL nl ex sz rs) o) (i := 1) (b := true) rfl rfl
    have hsl := settle_length (vals rs) 500 o
    have D3 := D.of_len hsl
    rw [share_Rings.L1_eq, ringsI]
    generalize settle (vals rs) 500 o = q at *
    have hkq : k < q.length := by omega
    have hko : k < o.length := by omega
    have hset : (q.set k (calmI (vals rs) q)).length = o.length := by simp [hsl]
    have ih := ih (k + 1) (q.set k (calmI (vals rs) q)) (D.of_len hset) (by omega)
    simp only [TM, hset, hsl] at ih hs hm ⊢
    simp only [share_Rings.B1, beqT, beqF, exF_seq, exF_region, exF_block, exF_cond, exF_ret, exF_exit, exF_skip, runL, wantL, stepL, evL, evC, LEnv.at, putL, loadFine, loadL, cellsAt, Trk.putNew, Trk.up, Trk.touch, Trk.gives, Trk.calm, Trk.hit, opdsOf, Trk.fresh, LEnv.keep, LEnv.ofFrom, List.map_cons, List.map_nil, nbeq, nble, nblt, ofAV, ofAVs, lenL, bin_add, bin_sub, bin_mul, bin_eql, bin_neq, bin_lss, bin_leq, bin_gtr, bin_geq, natL_nat, natL_zero, natL_one, natL_two, Nat.zero_mul, List.any_cons, List.any_nil, Bool.or_false, Bool.false_or, Bool.true_or, Bool.or_true, Bool.and_true, Bool.true_and, Bool.and_false, Bool.false_and, Bool.not_true, Bool.not_false, Nat.reduceBEq, Nat.reduceEqDiff, decide_true, decide_false, cond_true, cond_false, List.filter_nil, List.filter_cons, Nat.reduceAdd, Nat.reduceLeDiff, reduceCtorEq, List.length_nil, List.length_cons, Nat.mul_one, if_true, if_false, Bool.false_eq_true, eq_self, and_true, true_and, retL, resultsL, resAllL, resOfL, List.append_nil, List.nil_append, List.cons_append, true_or, or_true, false_or, or_false, false_and, and_false, not_true_eq_false, not_false_eq_true, ne_eq, unL, trim_nil, views_pures, LV.pures, LV.pure, freeze, Nat.reduceDiv, Int.reduceEq, Int.reduceLT, Int.reduceLE, Int.natCast_zero, LV.cells, allocL, List.getElem?_cons_zero, List.getElem?_cons_succ, storeL, spliceL, List.take_zero, List.take_succ_cons, List.drop_zero, List.drop_succ_cons, List.drop_nil, List.take_nil, Nat.le_refl, Nat.reduceMul, List.set_cons_zero, List.set_cons_succ, LV.scalar, List.all_cons, List.all_nil, Nat.lt_add_one, Nat.zero_lt_one, Nat.reduceLT, Nat.lt_irrefl, fillL, List.length_append, foldIntL, kind_beq, pures_int, solids_int, plains_int, unders_int, scalars_int, show ((k : Int) < (o.length : Int)) by omega, hm, hs, hkq, hko, Nat.zero_add, List.length_map, hsl, set_int _ _ _ _ hkq, show k + 1 ≤ o.length by omega, wrap_succ (show k + 1 < 9223372036854775808 by omega), ih]
def ringsV (V : List (List Int)) : List Int := if chkV V = 0 then ringsI V (V.getD 0 []).length 0 (nones (V.getD 0 []).length) else []
theorem ringsP_c (nl ex : Bool) (sz : Nat) (rs : List Row) (hl : rs.length < 1000000) (hr : ∀ r ∈ rs, r.l.length < 1000000) (m : LMem) : clF LP n_share_Rings [VL nl ex sz rs] m = some (.P, RT (chkV (vals rs)) (ringsV (vals rs)), m) := by
  have hc := fun m => check_c nl ex sz rs hl hr m
  unfold ringsV
  by_cases h1 : chkV (vals rs) = 0
  · have D := vok_of h1
    obtain ⟨k1, k2, k3, k4, k5⟩ := D
    rw [vals0 rs k1] at *
    rw [if_pos h1]
    have he := fun m => empty_c nl ex sz rs k1 k5 m
    have hn : (nones rs[0].l.length).length = rs[0].l.length := by simp [nones]
    have D : DOk rs (nones rs[0].l.length) := ⟨k1, k2, fun i hi => by rw [hn, k3 i hi], k4, by rw [hn]; exact k5⟩
    have ht := rings_loop nl ex sz rs[0].l.length 0 (nones rs[0].l.length) D (by rw [hn]; omega)
    have htl := ringsI_length (vals rs) rs[0].l.length 0 (nones rs[0].l.length)
    rw [hn] at htl
    generalize ringsI (vals rs) rs[0].l.length 0 (nones rs[0].l.length) = r at *
    simp only [TM, hn, htl, Int.natCast_zero] at ht
    have hv := view_slp [⟨[VL nl ex sz rs, SLo 1 rs[0].l.length], true⟩, ⟨r.map (LV.int .i64), true⟩, ⟨[VL nl ex sz rs, SLo 1 rs[0].l.length], true⟩] 1 r true 0 rfl
    rw [htl] at hv
    rw [h1]
    refine call_Pv lp_share_Rings rfl (by simp [LV.pures, LV.pure]) ?_ hv m
    simp only [share_Rings, share_Rings.B, beqT, beqF, exF_seq, exF_region, exF_block, exF_cond, exF_ret, exF_exit, exF_skip, runL, wantL, stepL, evL, evC, LEnv.at, putL, loadFine, loadL, cellsAt, Trk.putNew, Trk.up, Trk.touch, Trk.gives, Trk.calm, Trk.hit, opdsOf, Trk.fresh, LEnv.keep, LEnv.ofFrom, List.map_cons, List.map_nil, nbeq, nble, nblt, ofAV, ofAVs, lenL, bin_add, bin_sub, bin_mul, bin_eql, bin_neq, bin_lss, bin_leq, bin_gtr, bin_geq, natL_nat, natL_zero, natL_one, natL_two, Nat.zero_mul, List.any_cons, List.any_nil, Bool.or_false, Bool.false_or, Bool.true_or, Bool.or_true, Bool.and_true, Bool.true_and, Bool.and_false, Bool.false_and, Bool.not_true, Bool.not_false, Nat.reduceBEq, Nat.reduceEqDiff, decide_true, decide_false, cond_true, cond_false, List.filter_nil, List.filter_cons, Nat.reduceAdd, Nat.reduceLeDiff, reduceCtorEq, List.length_nil, List.length_cons, Nat.mul_one, if_true, if_false, Bool.false_eq_true, eq_self, and_true, true_and, retL, resultsL, resAllL, resOfL, List.append_nil, List.nil_append, List.cons_append, true_or, or_true, false_or, or_false, false_and, and_false, not_true_eq_false, not_false_eq_true, ne_eq, unL, trim_nil, views_pures, LV.pures, LV.pure, freeze, Nat.reduceDiv, Int.reduceEq, Int.reduceLT, Int.reduceLE, Int.natCast_zero, LV.cells, allocL, List.getElem?_cons_zero, List.getElem?_cons_succ, storeL, spliceL, List.take_zero, List.take_succ_cons, List.drop_zero, List.drop_succ_cons, List.drop_nil, List.take_nil, Nat.le_refl, Nat.reduceMul, List.set_cons_zero, List.set_cons_succ, LV.scalar, List.all_cons, List.all_nil, Nat.lt_add_one, Nat.zero_lt_one, Nat.reduceLT, Nat.lt_irrefl, fillL, List.length_append, foldIntL, kind_beq, pures_int, solids_int, plains_int, unders_int, scalars_int, hc, h1, he, ht, Nat.zero_add]
  · rw [if_neg h1]
    refine call_P lp_share_Rings rfl (by simp [LV.pures, LV.pure]) (m1 := []) ?_ (by simp [LV.pures, LV.pure]) m
    simp only [share_Rings, share_Rings.B, beqT, beqF, exF_seq, exF_region, exF_block, exF_cond, exF_ret, exF_exit, exF_skip, runL, wantL, stepL, evL, evC, LEnv.at, putL, loadFine, loadL, cellsAt, Trk.putNew, Trk.up, Trk.touch, Trk.gives, Trk.calm, Trk.hit, opdsOf, Trk.fresh, LEnv.keep, LEnv.ofFrom, List.map_cons, List.map_nil, nbeq, nble, nblt, ofAV, ofAVs, lenL, bin_add, bin_sub, bin_mul, bin_eql, bin_neq, bin_lss, bin_leq, bin_gtr, bin_geq, natL_nat, natL_zero, natL_one, natL_two, Nat.zero_mul, List.any_cons, List.any_nil, Bool.or_false, Bool.false_or, Bool.true_or, Bool.or_true, Bool.and_true, Bool.true_and, Bool.and_false, Bool.false_and, Bool.not_true, Bool.not_false, Nat.reduceBEq, Nat.reduceEqDiff, decide_true, decide_false, cond_true, cond_false, List.filter_nil, List.filter_cons, Nat.reduceAdd, Nat.reduceLeDiff, reduceCtorEq, List.length_nil, List.length_cons, Nat.mul_one, if_true, if_false, Bool.false_eq_true, eq_self, and_true, true_and, retL, resultsL, resAllL, resOfL, List.append_nil, List.nil_append, List.cons_append, true_or, or_true, false_or, or_false, false_and, and_false, not_true_eq_false, not_false_eq_true, ne_eq, unL, trim_nil, views_pures, LV.pures, LV.pure, freeze, Nat.reduceDiv, Int.reduceEq, Int.reduceLT, Int.reduceLE, Int.natCast_zero, LV.cells, allocL, List.getElem?_cons_zero, List.getElem?_cons_succ, storeL, spliceL, List.take_zero, List.take_succ_cons, List.drop_zero, List.drop_succ_cons, List.drop_nil, List.take_nil, Nat.le_refl, Nat.reduceMul, List.set_cons_zero, List.set_cons_succ, LV.scalar, List.all_cons, List.all_nil, Nat.lt_add_one, Nat.zero_lt_one, Nat.reduceLT, Nat.lt_irrefl, fillL, List.length_append, foldIntL, kind_beq, pures_int, solids_int, plains_int, unders_int, scalars_int, hc, h1]
    rw [RT_err _ h1]
end Go.Am.Share


