/-
  What functions of chapter 13 compute, outright 4: lists that are the same or not, a tide and then another one, rings, kinds, pairs.
-/
import Derived.Test.YtgogknjedpmcgaaWashD1
import Derived.Test.YtgogknjedpmcgaaWashC15
import Derived.Test.YtgogknjedpmcgaaWashC9
set_option linter.unusedVariables false
set_option linter.unusedSimpArgs false
set_option maxRecDepth 10000
namespace Go.Am.Wash
open Go.Am.G

/-! ### The same -/
def sameF (a b : List Nat) : Nat → Nat → Bool
  | 0, _ => true
  | n + 1, k => if nth a k = nth b k then sameF a b n (k + 1) else false
theorem sameF_ok (a b : List Nat) (n : Nat) : ∀ k, sameF a b n k = true ↔ ∀ x, k ≤ x → x < k + n → nth a x = nth b x := by
  induction n with
  | zero => intro k; simp [sameF]; intros; omega
  | succ n ih =>
    intro k
    rw [sameF]
    by_cases c : nth a k = nth b k
    · rw [if_pos c, ih]
      constructor
      · intro h x h1 h2
        by_cases e : x = k
        · subst e; exact c
        · exact h x (by omega) (by omega)
      · intro h x h1 h2
        exact h x (by omega) (by omega)
    · rw [if_neg c]
      simp only [Bool.false_eq_true, false_iff]
      intro h
      exact c (h k (by omega) (by omega))
theorem sameG_loop (nl ex nl' ex' : Bool) (sz sz' : Nat) (a b : List Nat) (hl : a.length = b.length) (hs : a.length < 1000000) (n : Nat) : ∀ k, k + n = a.length →
    exF LP law13_same.L0 [(0, IL nl ex sz (ci a)), (1, IL nl' ex' sz' (ci b)), (5, .int .i64 (k : Int))] [] = if sameF a b n k then some (.exit 0, [], []) else some (.ret, [(4, .bool false)], []) := by
  induction n with
  | zero =>
    intro k hk
    rw [law13_same.L0_eq]
    simp only [law13_same.B0, beqT, beqF, exF_seq, exF_region, exF_block, exF_cond, exF_ret, exF_exit, exF_skip, runL, wantL, stepL, evL, LEnv.at, putL, loadFine, loadL, cellsAt, Trk.putNew, Trk.up, Trk.touch, Trk.gives, Trk.calm, Trk.hit, opdsOf, Trk.fresh, LEnv.keep, LEnv.ofFrom, List.map_cons, List.map_nil, nbeq, nble, nblt, ofAV, ofAVs, lenL, bin_add, bin_sub, bin_mul, bin_eql, bin_neq, bin_lss, bin_leq, bin_gtr, bin_geq, natL_nat, natL_zero, natL_one, natL_two, Nat.zero_mul, List.any_cons, List.any_nil, Bool.or_false, Bool.false_or, Bool.true_or, Bool.or_true, Bool.and_true, Bool.true_and, Bool.and_false, Bool.false_and, Bool.not_true, Bool.not_false, Nat.reduceBEq, Nat.reduceEqDiff, decide_true, decide_false, cond_true, cond_false, List.filter_nil, List.filter_cons, Nat.reduceAdd, Nat.reduceLeDiff, reduceCtorEq, List.length_nil, List.length_cons, Nat.mul_one, if_true, if_false, Bool.false_eq_true, eq_self, and_true, true_and, retL, resultsL, resAllL, resOfL, List.append_nil, List.nil_append, List.cons_append, true_or, or_true, false_or, or_false, false_and, and_false, not_true_eq_false, not_false_eq_true, ne_eq, unL, trim_nil, views_pures, LV.pures, LV.pure, freeze, Nat.reduceDiv, Int.reduceEq, Int.reduceLT, Int.reduceLE, Int.natCast_zero, LV.cells, allocL, List.getElem?_cons_zero, List.getElem?_cons_succ, storeL, spliceL, List.take_zero, List.take_succ_cons, List.drop_zero, List.drop_succ_cons, List.drop_nil, List.take_nil, Nat.le_refl, Nat.reduceMul, List.set_cons_zero, List.set_cons_succ, LV.scalar, List.all_cons, List.all_nil, Nat.lt_add_one, Nat.zero_lt_one, Nat.reduceLT, Nat.lt_irrefl, fillL, List.length_append, foldIntL, kind_beq, pures_int, solids_int, plains_int, unders_int, scalars_int, ci_len, show ¬ ((k : Int) < (a.length : Int)) by omega, sameF]
  | succ n ih =>
    intro k hk
    have h2 : k < a.length := by omega
    have h3 : k < b.length := by omega
    have c1 : ((ci a).map (LV.int .i64))[k]? = some (.int .i64 ((nth a k : Nat) : Int)) := by rw [ci_map, nat_at _ _ _ h2, nth_at a k h2]
    have c2 : ((ci b).map (LV.int .i64))[k]? = some (.int .i64 ((nth b k : Nat) : Int)) := by rw [ci_map, nat_at _ _ _ h3, nth_at b k h3]
    have ih := ih (k + 1) (by omega)
    have hl1 := ci_len a
    have hl2 := ci_len b
    rw [law13_same.L0_eq, sameF]
    generalize ci a = u at *
    generalize ci b = v at *
    by_cases c : nth a k = nth b k
    · rw [if_pos c]
      rw [c] at c1
      simp only [law13_same.B0, beqT, beqF, exF_seq, exF_region, exF_block, exF_cond, exF_ret, exF_exit, exF_skip, runL, wantL, stepL, evL, LEnv.at, putL, loadFine, loadL, cellsAt, Trk.putNew, Trk.up, Trk.touch, Trk.gives, Trk.calm, Trk.hit, opdsOf, Trk.fresh, LEnv.keep, LEnv.ofFrom, List.map_cons, List.map_nil, nbeq, nble, nblt, ofAV, ofAVs, lenL, bin_add, bin_sub, bin_mul, bin_eql, bin_neq, bin_lss, bin_leq, bin_gtr, bin_geq, natL_nat, natL_zero, natL_one, natL_two, Nat.zero_mul, List.any_cons, List.any_nil, Bool.or_false, Bool.false_or, Bool.true_or, Bool.or_true, Bool.and_true, Bool.true_and, Bool.and_false, Bool.false_and, Bool.not_true, Bool.not_false, Nat.reduceBEq, Nat.reduceEqDiff, decide_true, decide_false, cond_true, cond_false, List.filter_nil, List.filter_cons, Nat.reduceAdd, Nat.reduceLeDiff, reduceCtorEq, List.length_nil, List.length_cons, Nat.mul_one, if_true, if_false, Bool.false_eq_true, eq_self, and_true, true_and, retL, resultsL, resAllL, resOfL, List.append_nil, List.nil_append, List.cons_append, true_or, or_true, false_or, or_false, false_and, and_false, not_true_eq_false, not_false_eq_true, ne_eq, unL, trim_nil, views_pures, LV.pures, LV.pure, freeze, Nat.reduceDiv, Int.reduceEq, Int.reduceLT, Int.reduceLE, Int.natCast_zero, LV.cells, allocL, List.getElem?_cons_zero, List.getElem?_cons_succ, storeL, spliceL, List.take_zero, List.take_succ_cons, List.drop_zero, List.drop_succ_cons, List.drop_nil, List.take_nil, Nat.le_refl, Nat.reduceMul, List.set_cons_zero, List.set_cons_succ, LV.scalar, List.all_cons, List.all_nil, Nat.lt_add_one, Nat.zero_lt_one, Nat.reduceLT, Nat.lt_irrefl, fillL, List.length_append, foldIntL, kind_beq, pures_int, solids_int, plains_int, unders_int, scalars_int, hl1, hl2, show ((k : Int) < (a.length : Int)) by omega, h2, h3, c1, c2, wrap_succ (show k + 1 < 9223372036854775808 by omega), ih]
    · have c' : ¬ ((nth a k : Nat) : Int) = ((nth b k : Nat) : Int) := by omega
      rw [if_neg c]
      simp only [law13_same.B0, beqT, beqF, exF_seq, exF_region, exF_block, exF_cond, exF_ret, exF_exit, exF_skip, runL, wantL, stepL, evL, LEnv.at, putL, loadFine, loadL, cellsAt, Trk.putNew, Trk.up, Trk.touch, Trk.gives, Trk.calm, Trk.hit, opdsOf, Trk.fresh, LEnv.keep, LEnv.ofFrom, List.map_cons, List.map_nil, nbeq, nble, nblt, ofAV, ofAVs, lenL, bin_add, bin_sub, bin_mul, bin_eql, bin_neq, bin_lss, bin_leq, bin_gtr, bin_geq, natL_nat, natL_zero, natL_one, natL_two, Nat.zero_mul, List.any_cons, List.any_nil, Bool.or_false, Bool.false_or, Bool.true_or, Bool.or_true, Bool.and_true, Bool.true_and, Bool.and_false, Bool.false_and, Bool.not_true, Bool.not_false, Nat.reduceBEq, Nat.reduceEqDiff, decide_true, decide_false, cond_true, cond_false, List.filter_nil, List.filter_cons, Nat.reduceAdd, Nat.reduceLeDiff, reduceCtorEq, List.length_nil, List.length_cons, Nat.mul_one, if_true, if_false, Bool.false_eq_true, eq_self, and_true, true_and, retL, resultsL, resAllL, resOfL, List.append_nil, List.nil_append, List.cons_append, true_or, or_true, false_or, or_false, false_and, and_false, not_true_eq_false, not_false_eq_true, ne_eq, unL, trim_nil, views_pures, LV.pures, LV.pure, freeze, Nat.reduceDiv, Int.reduceEq, Int.reduceLT, Int.reduceLE, Int.natCast_zero, LV.cells, allocL, List.getElem?_cons_zero, List.getElem?_cons_succ, storeL, spliceL, List.take_zero, List.take_succ_cons, List.drop_zero, List.drop_succ_cons, List.drop_nil, List.take_nil, Nat.le_refl, Nat.reduceMul, List.set_cons_zero, List.set_cons_succ, LV.scalar, List.all_cons, List.all_nil, Nat.lt_add_one, Nat.zero_lt_one, Nat.reduceLT, Nat.lt_irrefl, fillL, List.length_append, foldIntL, kind_beq, pures_int, solids_int, plains_int, unders_int, scalars_int, hl1, hl2, show ((k : Int) < (a.length : Int)) by omega, h2, h3, c1, c2, c']
theorem same_c (nl ex nl' ex' : Bool) (sz sz' : Nat) (a b : List Nat) (ha : a.length < 1000000) (hb : b.length < 1000000) (m : LMem) : clF LP n_law13_same [IL nl ex sz (ci a), IL nl' ex' sz' (ci b)] m = some (.P, .bool (decide (a = b)), m) := by
  refine call_P lp_law13_same rfl (by simp [LV.pures, LV.pure]) (m1 := []) ?_ rfl m
  by_cases hl : a.length = b.length
  · have h := sameG_loop nl ex nl' ex' sz sz' a b hl ha a.length 0 (by omega)
    have e : decide (a = b) = sameF a b a.length 0 := by
      rw [Bool.eq_iff_iff, decide_eq_true_eq, sameF_ok]
      constructor
      · rintro rfl; intros; rfl
      · intro h; exact list_nth_ext hl fun x hx => h x (by omega) (by omega)
    rw [e]
    simp only [Int.natCast_zero] at h
    have hl1 := ci_len a
    have hl2 := ci_len b
    generalize ci a = u at *
    generalize ci b = v at *
    cases c : sameF a b a.length 0
    · rw [c] at h
      simp only [Bool.false_eq_true, if_false] at h
      simp only [law13_same, law13_same.B, beqT, beqF, exF_seq, exF_region, exF_block, exF_cond, exF_ret, exF_exit, exF_skip, runL, wantL, stepL, evL, LEnv.at, putL, loadFine, loadL, cellsAt, Trk.putNew, Trk.up, Trk.touch, Trk.gives, Trk.calm, Trk.hit, opdsOf, Trk.fresh, LEnv.keep, LEnv.ofFrom, List.map_cons, List.map_nil, nbeq, nble, nblt, ofAV, ofAVs, lenL, bin_add, bin_sub, bin_mul, bin_eql, bin_neq, bin_lss, bin_leq, bin_gtr, bin_geq, natL_nat, natL_zero, natL_one, natL_two, Nat.zero_mul, List.any_cons, List.any_nil, Bool.or_false, Bool.false_or, Bool.true_or, Bool.or_true, Bool.and_true, Bool.true_and, Bool.and_false, Bool.false_and, Bool.not_true, Bool.not_false, Nat.reduceBEq, Nat.reduceEqDiff, decide_true, decide_false, cond_true, cond_false, List.filter_nil, List.filter_cons, Nat.reduceAdd, Nat.reduceLeDiff, reduceCtorEq, List.length_nil, List.length_cons, Nat.mul_one, if_true, if_false, Bool.false_eq_true, eq_self, and_true, true_and, retL, resultsL, resAllL, resOfL, List.append_nil, List.nil_append, List.cons_append, true_or, or_true, false_or, or_false, false_and, and_false, not_true_eq_false, not_false_eq_true, ne_eq, unL, trim_nil, views_pures, LV.pures, LV.pure, freeze, Nat.reduceDiv, Int.reduceEq, Int.reduceLT, Int.reduceLE, Int.natCast_zero, LV.cells, allocL, List.getElem?_cons_zero, List.getElem?_cons_succ, storeL, spliceL, List.take_zero, List.take_succ_cons, List.drop_zero, List.drop_succ_cons, List.drop_nil, List.take_nil, Nat.le_refl, Nat.reduceMul, List.set_cons_zero, List.set_cons_succ, LV.scalar, List.all_cons, List.all_nil, Nat.lt_add_one, Nat.zero_lt_one, Nat.reduceLT, Nat.lt_irrefl, fillL, List.length_append, foldIntL, kind_beq, pures_int, solids_int, plains_int, unders_int, scalars_int, hl1, hl2, hl] at h ⊢
      simp only [beqT, beqF, exF_seq, exF_region, exF_block, exF_cond, exF_ret, exF_exit, exF_skip, runL, wantL, stepL, evL, LEnv.at, putL, loadFine, loadL, cellsAt, Trk.putNew, Trk.up, Trk.touch, Trk.gives, Trk.calm, Trk.hit, opdsOf, Trk.fresh, LEnv.keep, LEnv.ofFrom, List.map_cons, List.map_nil, nbeq, nble, nblt, ofAV, ofAVs, lenL, bin_add, bin_sub, bin_mul, bin_eql, bin_neq, bin_lss, bin_leq, bin_gtr, bin_geq, natL_nat, natL_zero, natL_one, natL_two, Nat.zero_mul, List.any_cons, List.any_nil, Bool.or_false, Bool.false_or, Bool.true_or, Bool.or_true, Bool.and_true, Bool.true_and, Bool.and_false, Bool.false_and, Bool.not_true, Bool.not_false, Nat.reduceBEq, Nat.reduceEqDiff, decide_true, decide_false, cond_true, cond_false, List.filter_nil, List.filter_cons, Nat.reduceAdd, Nat.reduceLeDiff, reduceCtorEq, List.length_nil, List.length_cons, Nat.mul_one, if_true, if_false, Bool.false_eq_true, eq_self, and_true, true_and, retL, resultsL, resAllL, resOfL, List.append_nil, List.nil_append, List.cons_append, true_or, or_true, false_or, or_false, false_and, and_false, not_true_eq_false, not_false_eq_true, ne_eq, unL, trim_nil, views_pures, LV.pures, LV.pure, freeze, Nat.reduceDiv, Int.reduceEq, Int.reduceLT, Int.reduceLE, Int.natCast_zero, LV.cells, allocL, List.getElem?_cons_zero, List.getElem?_cons_succ, storeL, spliceL, List.take_zero, List.take_succ_cons, List.drop_zero, List.drop_succ_cons, List.drop_nil, List.take_nil, Nat.le_refl, Nat.reduceMul, List.set_cons_zero, List.set_cons_succ, LV.scalar, List.all_cons, List.all_nil, Nat.lt_add_one, Nat.zero_lt_one, Nat.reduceLT, Nat.lt_irrefl, fillL, List.length_append, foldIntL, kind_beq, pures_int, solids_int, plains_int, unders_int, scalars_int, h]
    · rw [c] at h
      simp only [if_true] at h
      simp only [law13_same, law13_same.B, beqT, beqF, exF_seq, exF_region, exF_block, exF_cond, exF_ret, exF_exit, exF_skip, runL, wantL, stepL, evL, LEnv.at, putL, loadFine, loadL, cellsAt, Trk.putNew, Trk.up, Trk.touch, Trk.gives, Trk.calm, Trk.hit, opdsOf, Trk.fresh, LEnv.keep, LEnv.ofFrom, List.map_cons, List.map_nil, nbeq, nble, nblt, ofAV, ofAVs, lenL, bin_add, bin_sub, bin_mul, bin_eql, bin_neq, bin_lss, bin_leq, bin_gtr, bin_geq, natL_nat, natL_zero, natL_one, natL_two, Nat.zero_mul, List.any_cons, List.any_nil, Bool.or_false, Bool.false_or, Bool.true_or, Bool.or_true, Bool.and_true, Bool.true_and, Bool.and_false, Bool.false_and, Bool.not_true, Bool.not_false, Nat.reduceBEq, Nat.reduceEqDiff, decide_true, decide_false, cond_true, cond_false, List.filter_nil, List.filter_cons, Nat.reduceAdd, Nat.reduceLeDiff, reduceCtorEq, List.length_nil, List.length_cons, Nat.mul_one, if_true, if_false, Bool.false_eq_true, eq_self, and_true, true_and, retL, resultsL, resAllL, resOfL, List.append_nil, List.nil_append, List.cons_append, true_or, or_true, false_or, or_false, false_and, and_false, not_true_eq_false, not_false_eq_true, ne_eq, unL, trim_nil, views_pures, LV.pures, LV.pure, freeze, Nat.reduceDiv, Int.reduceEq, Int.reduceLT, Int.reduceLE, Int.natCast_zero, LV.cells, allocL, List.getElem?_cons_zero, List.getElem?_cons_succ, storeL, spliceL, List.take_zero, List.take_succ_cons, List.drop_zero, List.drop_succ_cons, List.drop_nil, List.take_nil, Nat.le_refl, Nat.reduceMul, List.set_cons_zero, List.set_cons_succ, LV.scalar, List.all_cons, List.all_nil, Nat.lt_add_one, Nat.zero_lt_one, Nat.reduceLT, Nat.lt_irrefl, fillL, List.length_append, foldIntL, kind_beq, pures_int, solids_int, plains_int, unders_int, scalars_int, hl1, hl2, hl] at h ⊢
      simp only [beqT, beqF, exF_seq, exF_region, exF_block, exF_cond, exF_ret, exF_exit, exF_skip, runL, wantL, stepL, evL, LEnv.at, putL, loadFine, loadL, cellsAt, Trk.putNew, Trk.up, Trk.touch, Trk.gives, Trk.calm, Trk.hit, opdsOf, Trk.fresh, LEnv.keep, LEnv.ofFrom, List.map_cons, List.map_nil, nbeq, nble, nblt, ofAV, ofAVs, lenL, bin_add, bin_sub, bin_mul, bin_eql, bin_neq, bin_lss, bin_leq, bin_gtr, bin_geq, natL_nat, natL_zero, natL_one, natL_two, Nat.zero_mul, List.any_cons, List.any_nil, Bool.or_false, Bool.false_or, Bool.true_or, Bool.or_true, Bool.and_true, Bool.true_and, Bool.and_false, Bool.false_and, Bool.not_true, Bool.not_false, Nat.reduceBEq, Nat.reduceEqDiff, decide_true, decide_false, cond_true, cond_false, List.filter_nil, List.filter_cons, Nat.reduceAdd, Nat.reduceLeDiff, reduceCtorEq, List.length_nil, List.length_cons, Nat.mul_one, if_true, if_false, Bool.false_eq_true, eq_self, and_true, true_and, retL, resultsL, resAllL, resOfL, List.append_nil, List.nil_append, List.cons_append, true_or, or_true, false_or, or_false, false_and, and_false, not_true_eq_false, not_false_eq_true, ne_eq, unL, trim_nil, views_pures, LV.pures, LV.pure, freeze, Nat.reduceDiv, Int.reduceEq, Int.reduceLT, Int.reduceLE, Int.natCast_zero, LV.cells, allocL, List.getElem?_cons_zero, List.getElem?_cons_succ, storeL, spliceL, List.take_zero, List.take_succ_cons, List.drop_zero, List.drop_succ_cons, List.drop_nil, List.take_nil, Nat.le_refl, Nat.reduceMul, List.set_cons_zero, List.set_cons_succ, LV.scalar, List.all_cons, List.all_nil, Nat.lt_add_one, Nat.zero_lt_one, Nat.reduceLT, Nat.lt_irrefl, fillL, List.length_append, foldIntL, kind_beq, pures_int, solids_int, plains_int, unders_int, scalars_int, h]
  · have e : decide (a = b) = false := by
      rw [decide_eq_false_iff_not]; intro c; exact hl (congrArg List.length c)
    have hl' : ¬ ((a.length : Int) = (b.length : Int)) := by omega
    rw [e]
    simp only [law13_same, law13_same.B, beqT, beqF, exF_seq, exF_region, exF_block, exF_cond, exF_ret, exF_exit, exF_skip, runL, wantL, stepL, evL, LEnv.at, putL, loadFine, loadL, cellsAt, Trk.putNew, Trk.up, Trk.touch, Trk.gives, Trk.calm, Trk.hit, opdsOf, Trk.fresh, LEnv.keep, LEnv.ofFrom, List.map_cons, List.map_nil, nbeq, nble, nblt, ofAV, ofAVs, lenL, bin_add, bin_sub, bin_mul, bin_eql, bin_neq, bin_lss, bin_leq, bin_gtr, bin_geq, natL_nat, natL_zero, natL_one, natL_two, Nat.zero_mul, List.any_cons, List.any_nil, Bool.or_false, Bool.false_or, Bool.true_or, Bool.or_true, Bool.and_true, Bool.true_and, Bool.and_false, Bool.false_and, Bool.not_true, Bool.not_false, Nat.reduceBEq, Nat.reduceEqDiff, decide_true, decide_false, cond_true, cond_false, List.filter_nil, List.filter_cons, Nat.reduceAdd, Nat.reduceLeDiff, reduceCtorEq, List.length_nil, List.length_cons, Nat.mul_one, if_true, if_false, Bool.false_eq_true, eq_self, and_true, true_and, retL, resultsL, resAllL, resOfL, List.append_nil, List.nil_append, List.cons_append, true_or, or_true, false_or, or_false, false_and, and_false, not_true_eq_false, not_false_eq_true, ne_eq, unL, trim_nil, views_pures, LV.pures, LV.pure, freeze, Nat.reduceDiv, Int.reduceEq, Int.reduceLT, Int.reduceLE, Int.natCast_zero, LV.cells, allocL, List.getElem?_cons_zero, List.getElem?_cons_succ, storeL, spliceL, List.take_zero, List.take_succ_cons, List.drop_zero, List.drop_succ_cons, List.drop_nil, List.take_nil, Nat.le_refl, Nat.reduceMul, List.set_cons_zero, List.set_cons_succ, LV.scalar, List.all_cons, List.all_nil, Nat.lt_add_one, Nat.zero_lt_one, Nat.reduceLT, Nat.lt_irrefl, fillL, List.length_append, foldIntL, kind_beq, pures_int, solids_int, plains_int, unders_int, scalars_int, ci_len, hl']

/-! ### A tide and then another one -/
theorem thenL_loop (nl ex nl' ex' : Bool) (sz sz' : Nat) (a b : List Nat) (ha : ∀ x ∈ a, x < b.length) (hal : a.length ≤ 1000) (n : Nat) : ∀ (k : Nat) (l : List Nat), k + n = a.length → l.length ≤ k →
    exF LP law13_then.L0 [(1, IL nl' ex' sz' (ci b)), (5, GV 0 (ci l)), (8, IL nl ex sz (ci a)), (9, .int .i64 (a.length : Int)), (10, .int .i64 (k : Int))] (GM (ci l)) = some (.exit 0, [(5, GV 0 (ci (l ++ thenN (a.drop k) b)))], GM (ci (l ++ thenN (a.drop k) b))) := by
  induction n with
  | zero =>
    intro k l hk hl
    rw [law13_then.L0_eq]
    simp only [law13_then.B0, beqT, beqF, exF_seq, exF_region, exF_block, exF_cond, exF_ret, exF_exit, exF_skip, runL, wantL, stepL, evL, LEnv.at, putL, loadFine, loadL, cellsAt, Trk.putNew, Trk.up, Trk.touch, Trk.gives, Trk.calm, Trk.hit, opdsOf, Trk.fresh, LEnv.keep, LEnv.ofFrom, List.map_cons, List.map_nil, nbeq, nble, nblt, ofAV, ofAVs, lenL, bin_add, bin_sub, bin_mul, bin_eql, bin_neq, bin_lss, bin_leq, bin_gtr, bin_geq, natL_nat, natL_zero, natL_one, natL_two, Nat.zero_mul, List.any_cons, List.any_nil, Bool.or_false, Bool.false_or, Bool.true_or, Bool.or_true, Bool.and_true, Bool.true_and, Bool.and_false, Bool.false_and, Bool.not_true, Bool.not_false, Nat.reduceBEq, Nat.reduceEqDiff, decide_true, decide_false, cond_true, cond_false, List.filter_nil, List.filter_cons, Nat.reduceAdd, Nat.reduceLeDiff, reduceCtorEq, List.length_nil, List.length_cons, Nat.mul_one, if_true, if_false, Bool.false_eq_true, eq_self, and_true, true_and, retL, resultsL, resAllL, resOfL, List.append_nil, List.nil_append, List.cons_append, true_or, or_true, false_or, or_false, false_and, and_false, not_true_eq_false, not_false_eq_true, ne_eq, unL, trim_nil, views_pures, LV.pures, LV.pure, freeze, Nat.reduceDiv, Int.reduceEq, Int.reduceLT, Int.reduceLE, Int.natCast_zero, LV.cells, allocL, List.getElem?_cons_zero, List.getElem?_cons_succ, storeL, spliceL, List.take_zero, List.take_succ_cons, List.drop_zero, List.drop_succ_cons, List.drop_nil, List.take_nil, Nat.le_refl, Nat.reduceMul, List.set_cons_zero, List.set_cons_succ, LV.scalar, List.all_cons, List.all_nil, Nat.lt_add_one, Nat.zero_lt_one, Nat.reduceLT, Nat.lt_irrefl, fillL, List.length_append, foldIntL, kind_beq, pures_int, solids_int, plains_int, unders_int, scalars_int, show ¬ ((k : Int) < (a.length : Int)) by omega, List.drop_eq_nil_of_le (show a.length ≤ k by omega), thenN, List.map_nil]
  | succ n ih =>
    intro k l hk hl
    have h2 : k < a.length := by omega
    have h3 := ha _ (List.getElem_mem h2)
    have ih := ih (k + 1) (l ++ [b[a[k]]]) (by omega) (by simp; omega)
    have e : ci (l ++ [b[a[k]]]) = ci l ++ [((b[a[k]] : Nat) : Int)] := by simp
    have ap := append_grow0 (ci l) ((b[a[k]] : Nat) : Int) true (by rw [ci_len]; omega)
    rw [← e] at ap
    have e2 : l ++ thenN (a.drop k) b = (l ++ [b[a[k]]]) ++ thenN (a.drop (k + 1)) b := by
      rw [List.drop_eq_getElem_cons h2]
      show l ++ (nth b a[k] :: _) = _
      rw [nth_at b _ h3, List.append_assoc]; rfl
    rw [law13_then.L0_eq, e2]
    simp only [IL, ci_len, ci_map] at ih ⊢
    simp only [law13_then.B0, beqT, beqF, exF_seq, exF_region, exF_block, exF_cond, exF_ret, exF_exit, exF_skip, runL, wantL, stepL, evL, LEnv.at, putL, loadFine, loadL, cellsAt, Trk.putNew, Trk.up, Trk.touch, Trk.gives, Trk.calm, Trk.hit, opdsOf, Trk.fresh, LEnv.keep, LEnv.ofFrom, List.map_cons, List.map_nil, nbeq, nble, nblt, ofAV, ofAVs, lenL, bin_add, bin_sub, bin_mul, bin_eql, bin_neq, bin_lss, bin_leq, bin_gtr, bin_geq, natL_nat, natL_zero, natL_one, natL_two, Nat.zero_mul, List.any_cons, List.any_nil, Bool.or_false, Bool.false_or, Bool.true_or, Bool.or_true, Bool.and_true, Bool.true_and, Bool.and_false, Bool.false_and, Bool.not_true, Bool.not_false, Nat.reduceBEq, Nat.reduceEqDiff, decide_true, decide_false, cond_true, cond_false, List.filter_nil, List.filter_cons, Nat.reduceAdd, Nat.reduceLeDiff, reduceCtorEq, List.length_nil, List.length_cons, Nat.mul_one, if_true, if_false, Bool.false_eq_true, eq_self, and_true, true_and, retL, resultsL, resAllL, resOfL, List.append_nil, List.nil_append, List.cons_append, true_or, or_true, false_or, or_false, false_and, and_false, not_true_eq_false, not_false_eq_true, ne_eq, unL, trim_nil, views_pures, LV.pures, LV.pure, freeze, Nat.reduceDiv, Int.reduceEq, Int.reduceLT, Int.reduceLE, Int.natCast_zero, LV.cells, allocL, List.getElem?_cons_zero, List.getElem?_cons_succ, storeL, spliceL, List.take_zero, List.take_succ_cons, List.drop_zero, List.drop_succ_cons, List.drop_nil, List.take_nil, Nat.le_refl, Nat.reduceMul, List.set_cons_zero, List.set_cons_succ, LV.scalar, List.all_cons, List.all_nil, Nat.lt_add_one, Nat.zero_lt_one, Nat.reduceLT, Nat.lt_irrefl, fillL, List.length_append, foldIntL, kind_beq, pures_int, solids_int, plains_int, unders_int, scalars_int, show ((k : Int) < (a.length : Int)) by omega, h2, nat_at _ _ _ h2, h3, nat_at _ _ _ h3, ap, wrap_succ (show k + 1 < 9223372036854775808 by omega), ih]
theorem thenL_run (nl ex nl' ex' : Bool) (sz sz' : Nat) (a b : List Nat) (ha : ∀ x ∈ a, x < b.length) (hal : a.length ≤ 1000) : retL law13_then.results (exF LP law13_then.body (LEnv.ofFrom 0 [IL nl ex sz (ci a), IL nl' ex' sz' (ci b)]) []) = some (GV 0 (ci (thenN a b)), GM (ci (thenN a b))) := by
  have h := thenL_loop nl ex nl' ex' sz sz' a b ha hal a.length 0 [] (by omega) (by simp)
  rw [List.nil_append, List.drop_zero] at h
  have h : exF LP law13_then.L0 [(1, IL nl' ex' sz' (ci b)), (5, .lst true true 0 0 []), (8, IL nl ex sz (ci a)), (9, .int .i64 (a.length : Int)), (10, .int .i64 0)] [] = some (.exit 0, [(5, GV 0 (ci (thenN a b)))], GM (ci (thenN a b))) := h
  have hl1 := ci_len a
  generalize ci a = u at *
  simp only [law13_then, law13_then.B, beqT, beqF, exF_seq, exF_region, exF_block, exF_cond, exF_ret, exF_exit, exF_skip, runL, wantL, stepL, evL, LEnv.at, putL, loadFine, loadL, cellsAt, Trk.putNew, Trk.up, Trk.touch, Trk.gives, Trk.calm, Trk.hit, opdsOf, Trk.fresh, LEnv.keep, LEnv.ofFrom, List.map_cons, List.map_nil, nbeq, nble, nblt, ofAV, ofAVs, lenL, bin_add, bin_sub, bin_mul, bin_eql, bin_neq, bin_lss, bin_leq, bin_gtr, bin_geq, natL_nat, natL_zero, natL_one, natL_two, Nat.zero_mul, List.any_cons, List.any_nil, Bool.or_false, Bool.false_or, Bool.true_or, Bool.or_true, Bool.and_true, Bool.true_and, Bool.and_false, Bool.false_and, Bool.not_true, Bool.not_false, Nat.reduceBEq, Nat.reduceEqDiff, decide_true, decide_false, cond_true, cond_false, List.filter_nil, List.filter_cons, Nat.reduceAdd, Nat.reduceLeDiff, reduceCtorEq, List.length_nil, List.length_cons, Nat.mul_one, if_true, if_false, Bool.false_eq_true, eq_self, and_true, true_and, retL, resultsL, resAllL, resOfL, List.append_nil, List.nil_append, List.cons_append, true_or, or_true, false_or, or_false, false_and, and_false, not_true_eq_false, not_false_eq_true, ne_eq, unL, trim_nil, views_pures, LV.pures, LV.pure, freeze, Nat.reduceDiv, Int.reduceEq, Int.reduceLT, Int.reduceLE, Int.natCast_zero, LV.cells, allocL, List.getElem?_cons_zero, List.getElem?_cons_succ, storeL, spliceL, List.take_zero, List.take_succ_cons, List.drop_zero, List.drop_succ_cons, List.drop_nil, List.take_nil, Nat.le_refl, Nat.reduceMul, List.set_cons_zero, List.set_cons_succ, LV.scalar, List.all_cons, List.all_nil, Nat.lt_add_one, Nat.zero_lt_one, Nat.reduceLT, Nat.lt_irrefl, fillL, List.length_append, foldIntL, kind_beq, pures_int, solids_int, plains_int, unders_int, scalars_int, hl1] at h ⊢
  simp only [beqT, beqF, exF_seq, exF_region, exF_block, exF_cond, exF_ret, exF_exit, exF_skip, runL, wantL, stepL, evL, LEnv.at, putL, loadFine, loadL, cellsAt, Trk.putNew, Trk.up, Trk.touch, Trk.gives, Trk.calm, Trk.hit, opdsOf, Trk.fresh, LEnv.keep, LEnv.ofFrom, List.map_cons, List.map_nil, nbeq, nble, nblt, ofAV, ofAVs, lenL, bin_add, bin_sub, bin_mul, bin_eql, bin_neq, bin_lss, bin_leq, bin_gtr, bin_geq, natL_nat, natL_zero, natL_one, natL_two, Nat.zero_mul, List.any_cons, List.any_nil, Bool.or_false, Bool.false_or, Bool.true_or, Bool.or_true, Bool.and_true, Bool.true_and, Bool.and_false, Bool.false_and, Bool.not_true, Bool.not_false, Nat.reduceBEq, Nat.reduceEqDiff, decide_true, decide_false, cond_true, cond_false, List.filter_nil, List.filter_cons, Nat.reduceAdd, Nat.reduceLeDiff, reduceCtorEq, List.length_nil, List.length_cons, Nat.mul_one, if_true, if_false, Bool.false_eq_true, eq_self, and_true, true_and, retL, resultsL, resAllL, resOfL, List.append_nil, List.nil_append, List.cons_append, true_or, or_true, false_or, or_false, false_and, and_false, not_true_eq_false, not_false_eq_true, ne_eq, unL, trim_nil, views_pures, LV.pures, LV.pure, freeze, Nat.reduceDiv, Int.reduceEq, Int.reduceLT, Int.reduceLE, Int.natCast_zero, LV.cells, allocL, List.getElem?_cons_zero, List.getElem?_cons_succ, storeL, spliceL, List.take_zero, List.take_succ_cons, List.drop_zero, List.drop_succ_cons, List.drop_nil, List.take_nil, Nat.le_refl, Nat.reduceMul, List.set_cons_zero, List.set_cons_succ, LV.scalar, List.all_cons, List.all_nil, Nat.lt_add_one, Nat.zero_lt_one, Nat.reduceLT, Nat.lt_irrefl, fillL, List.length_append, foldIntL, kind_beq, pures_int, solids_int, plains_int, unders_int, scalars_int, h]
theorem thenL_c (nl ex nl' ex' : Bool) (sz sz' : Nat) (a b : List Nat) (ha : ∀ x ∈ a, x < b.length) (hal : a.length ≤ 1000) (m : LMem) : clF LP n_law13_then [IL nl ex sz (ci a), IL nl' ex' sz' (ci b)] m = some (.P, RLn (thenN a b), m) :=
  call_Pv lp_law13_then rfl (by simp [LV.pures, LV.pure]) (thenL_run nl ex nl' ex' sz sz' a b ha hal) (view_grow0 37 _) m
/-- The same where they are shown out of memory. -/
theorem thenL_m {args : List LV} {ids : List Nat} {m : LMem} (nl ex nl' ex' : Bool) (sz sz' : Nat) (a b : List Nat) (hv : views m args = some ([IL nl ex sz (ci a), IL nl' ex' sz' (ci b)], ids)) (ha : ∀ x ∈ a, x < b.length) (hal : a.length ≤ 1000) : clF LP n_law13_then args m = some (.P, RLn (thenN a b), m) := by
  have hr := thenL_run nl ex nl' ex' sz sz' a b ha hal
  have hv2 := view_grow0 37 (ci (thenN a b))
  have hm : law13_then.mode = .P := rfl
  rw [clF_eq, lp_law13_then]
  simp only [callMode, hm, hv, hr, hv2]
  show _ = some (Mode.P, RL (ci (thenN a b)), m)
  generalize ci (thenN a b) = w
  by_cases hne : w = []
  · simp [hne, newIds, GV, LV.solid]
  · simp [newIds, GV, GM, hne, LV.solid, solids_int]

/-! ### Rings -/
def mb (met n : Nat) : List LV := (List.range n).map fun i => .bool (met.testBit i)
theorem mb_len (met n : Nat) : (mb met n).length = n := by simp [mb]
theorem mb_at (met n i : Nat) (h : i < n) : (mb met n)[i]? = some (.bool (met.testBit i)) := by simp [mb, h]
theorem mb_set (met n i : Nat) (h : i < n) : (mb met n).take i ++ [LV.bool true] ++ (mb met n).drop (i + 1) = mb (met ||| 2 ^ i) n := by
  have : (mb met n).take i ++ [LV.bool true] ++ (mb met n).drop (i + 1) = (mb met n).set i (.bool true) := by
    rw [List.set_eq_take_append_cons_drop, if_pos (by rw [mb_len]; exact h)]; simp
  rw [this]
  apply List.ext_getElem?
  intro j
  rw [List.getElem?_set]
  by_cases hj : i = j
  · subst hj
    simp only [if_true, mb_len, h]
    rw [mb_at _ _ _ h, Nat.testBit_or, Nat.testBit_two_pow]
    simp
  · simp only [if_neg hj]
    by_cases hjn : j < n
    · rw [mb_at _ _ _ hjn, mb_at _ _ _ hjn, Nat.testBit_or, Nat.testBit_two_pow]
      simp [hj]
    · rw [List.getElem?_eq_none (by rw [mb_len]; omega), List.getElem?_eq_none (by rw [mb_len]; omega)]
theorem bit_of (met p : Nat) : met.testBit p = !(Nat.beq (met / 2 ^ p % 2) 0) := by
  rw [Nat.testBit_eq_decide_div_mod_eq, nbeq]
  have := Nat.mod_two_eq_zero_or_one (met / 2 ^ p)
  rcases this with h | h <;> rw [h] <;> rfl
theorem walkL_loop (nl ex : Bool) (sz : Nat) {t : List Nat} (D : Td t) (vo w12 w13 : LV) (l' : List Nat) (met' : Nat) (f : Nat) : ∀ (met p : Nat) (l : List Nat) (m : LMem) (b : Nat), walkF t f met p l = some (l', met') → p < t.length → l.length + f ≤ 1000 → m[0]? = some ⟨mb met t.length, true⟩ → (l ≠ [] → 1 ≤ b ∧ m[b]? = some ⟨ints (ci l), true⟩) →
    ∃ m' b', exF LP law13_rings.L0 [(0, IL nl ex sz (ci t)), (3, vo), (4, .sl 0 0 t.length t.length 0 1 t.length), (6, GV b (ci l)), (7, .int .i64 (p : Int)), (12, w12), (13, w13)] m = some (.exit 2, [(0, IL nl ex sz (ci t)), (3, vo), (4, .sl 0 0 t.length t.length 0 1 t.length), (6, GV b' (ci l')), (12, w12), (13, w13)], m') ∧
      m'[0]? = some ⟨mb met' t.length, true⟩ ∧ (l' ≠ [] → 1 ≤ b' ∧ m'[b']? = some ⟨ints (ci l'), true⟩) ∧ (∀ i, 1 ≤ i → i < m.length → (l = [] ∨ i ≠ b) → m'[i]? = m[i]?) ∧ m.length ≤ m'.length ∧ (l = [] → l' ≠ [] → m.length ≤ b') ∧ (l ≠ [] → b' = b) := by
  have h7 := D.h7
  induction f with
  | zero => intro met p l m b h; cases h
  | succ f ih =>
    intro met p l m b h hp hlen h0 hb
    rw [walkF] at h
    have hbit := bit_of met p
    have hm0 : 0 < m.length := (List.getElem?_eq_some_iff.1 h0).1
    have hat := mb_at met t.length p hp
    have hml := mb_len met t.length
    have hset := mb_set met t.length p hp
    have hpt : t[p] < t.length := D.lt _ (List.getElem_mem hp)
    have hcell : ((ci t).map (LV.int .i64))[p]? = some (.int .i64 ((t[p] : Nat) : Int)) := by rw [ci_map, nat_at _ _ _ hp]
    have hl1 := ci_len t
    cases c : Nat.beq (met / 2 ^ p % 2) 0
    · rw [c, cond_false] at h
      rw [c] at hbit
      obtain ⟨rfl, rfl⟩ := Prod.mk.inj (Option.some.inj h)
      refine ⟨m, b, ?_, h0, hb, fun _ _ _ _ => rfl, Nat.le_refl _, fun h1 h2 => absurd h1 h2, fun _ => rfl⟩
      rw [hbit] at hat
      rw [law13_rings.L0_eq]
      simp only [law13_rings.B0, beqT, beqF, exF_seq, exF_region, exF_block, exF_cond, exF_ret, exF_exit, exF_skip, runL, wantL, stepL, evL, LEnv.at, putL, loadFine, loadL, cellsAt, Trk.putNew, Trk.up, Trk.touch, Trk.gives, Trk.calm, Trk.hit, opdsOf, Trk.fresh, LEnv.keep, LEnv.ofFrom, List.map_cons, List.map_nil, nbeq, nble, nblt, ofAV, ofAVs, lenL, bin_add, bin_sub, bin_mul, bin_eql, bin_neq, bin_lss, bin_leq, bin_gtr, bin_geq, natL_nat, natL_zero, natL_one, natL_two, Nat.zero_mul, List.any_cons, List.any_nil, Bool.or_false, Bool.false_or, Bool.true_or, Bool.or_true, Bool.and_true, Bool.true_and, Bool.and_false, Bool.false_and, Bool.not_true, Bool.not_false, Nat.reduceBEq, Nat.reduceEqDiff, decide_true, decide_false, cond_true, cond_false, List.filter_nil, List.filter_cons, Nat.reduceAdd, Nat.reduceLeDiff, reduceCtorEq, List.length_nil, List.length_cons, Nat.mul_one, if_true, if_false, Bool.false_eq_true, eq_self, and_true, true_and, retL, resultsL, resAllL, resOfL, List.append_nil, List.nil_append, List.cons_append, true_or, or_true, false_or, or_false, false_and, and_false, not_true_eq_false, not_false_eq_true, ne_eq, unL, trim_nil, views_pures, LV.pures, LV.pure, freeze, Nat.reduceDiv, Int.reduceEq, Int.reduceLT, Int.reduceLE, Int.natCast_zero, LV.cells, allocL, List.getElem?_cons_zero, List.getElem?_cons_succ, storeL, spliceL, List.take_zero, List.take_succ_cons, List.drop_zero, List.drop_succ_cons, List.drop_nil, List.take_nil, Nat.le_refl, Nat.reduceMul, List.set_cons_zero, List.set_cons_succ, LV.scalar, List.all_cons, List.all_nil, Nat.lt_add_one, Nat.zero_lt_one, Nat.reduceLT, Nat.lt_irrefl, fillL, List.length_append, foldIntL, kind_beq, pures_int, solids_int, plains_int, unders_int, scalars_int, h0, hml, hp, hat, Nat.zero_add]
    · rw [c, cond_true] at h
      rw [c] at hbit
      rw [hbit] at hat
      have e2 : Nat.blt p t.length = true := by rw [nblt]; simpa using hp
      rw [e2, cond_true, nth_at t p hp] at h
      have hms : m.set 0 ⟨mb (met ||| 2 ^ p) t.length, true⟩ = m.set 0 ⟨mb (met ||| 2 ^ p) t.length, true⟩ := rfl
      have hb1 : ci l ≠ [] → (m.set 0 ⟨mb (met ||| 2 ^ p) t.length, true⟩)[b]? = some ⟨(ci l).map (LV.int .i64), true⟩ := fun hne => by
        obtain ⟨k1, k2⟩ := hb (by intro c; apply hne; simp [c])
        rw [List.getElem?_set]
        have : ¬ 0 = b := by omega
        simp only [this, if_false]; exact k2
      have hg0 : (m.set 0 ⟨mb (met ||| 2 ^ p) t.length, true⟩)[0]? = some ⟨mb (met ||| 2 ^ p) t.length, true⟩ := by
        rw [List.getElem?_set]; simp [hm0]
      obtain ⟨m1, b1, e, e1, e3, e4, e5, e6⟩ := app_any (m.set 0 ⟨mb (met ||| 2 ^ p) t.length, true⟩) b (ci l) (p : Int) true (by rw [ci_len]; omega) hb1
      have el : ci l ++ [(p : Int)] = ci (l ++ [p]) := by simp
      rw [el] at e e1
      have hls : (m.set 0 ⟨mb (met ||| 2 ^ p) t.length, true⟩).length = m.length := by simp
      have hb1' : 1 ≤ b1 := by
        by_cases hln : l = []
        · have := e5 (by simp [hln]); omega
        · have := e6 (by intro c; apply hln; simpa using c)
          have := (hb hln).1
          omega
      have hk0 : m1[0]? = some ⟨mb (met ||| 2 ^ p) t.length, true⟩ := by
        rw [e3 0 ?_ (by omega)]; exact hg0
        by_cases hln : l = []
        · exact .inr (by simp [hln])
        · have := (hb hln).1
          exact .inl (by omega)
      obtain ⟨m2, b2, g1, g0, g2, g3, g4, g5, g7⟩ := ih (met ||| 2 ^ p) t[p] (l ++ [p]) m1 b1 h hpt (by simp; omega) hk0 (fun _ => ⟨hb1', e1⟩)
      refine ⟨m2, b2, ?_, g0, g2, fun i h1 hi hc => ?_, by omega, fun hl hl' => ?_, fun hl => ?_⟩
      · rw [law13_rings.L0_eq]
        generalize ci t = tt at *
        generalize GV b1 (ci (l ++ [p])) = gv at *
        simp only [law13_rings.B0, beqT, beqF, exF_seq, exF_region, exF_block, exF_cond, exF_ret, exF_exit, exF_skip, runL, wantL, stepL, evL, LEnv.at, putL, loadFine, loadL, cellsAt, Trk.putNew, Trk.up, Trk.touch, Trk.gives, Trk.calm, Trk.hit, opdsOf, Trk.fresh, LEnv.keep, LEnv.ofFrom, List.map_cons, List.map_nil, nbeq, nble, nblt, ofAV, ofAVs, lenL, bin_add, bin_sub, bin_mul, bin_eql, bin_neq, bin_lss, bin_leq, bin_gtr, bin_geq, natL_nat, natL_zero, natL_one, natL_two, Nat.zero_mul, List.any_cons, List.any_nil, Bool.or_false, Bool.false_or, Bool.true_or, Bool.or_true, Bool.and_true, Bool.true_and, Bool.and_false, Bool.false_and, Bool.not_true, Bool.not_false, Nat.reduceBEq, Nat.reduceEqDiff, decide_true, decide_false, cond_true, cond_false, List.filter_nil, List.filter_cons, Nat.reduceAdd, Nat.reduceLeDiff, reduceCtorEq, List.length_nil, List.length_cons, Nat.mul_one, if_true, if_false, Bool.false_eq_true, eq_self, and_true, true_and, retL, resultsL, resAllL, resOfL, List.append_nil, List.nil_append, List.cons_append, true_or, or_true, false_or, or_false, false_and, and_false, not_true_eq_false, not_false_eq_true, ne_eq, unL, trim_nil, views_pures, LV.pures, LV.pure, freeze, Nat.reduceDiv, Int.reduceEq, Int.reduceLT, Int.reduceLE, Int.natCast_zero, LV.cells, allocL, List.getElem?_cons_zero, List.getElem?_cons_succ, storeL, spliceL, List.take_zero, List.take_succ_cons, List.drop_zero, List.drop_succ_cons, List.drop_nil, List.take_nil, Nat.le_refl, Nat.reduceMul, List.set_cons_zero, List.set_cons_succ, LV.scalar, List.all_cons, List.all_nil, Nat.lt_add_one, Nat.zero_lt_one, Nat.reduceLT, Nat.lt_irrefl, fillL, List.length_append, foldIntL, kind_beq, pures_int, solids_int, plains_int, unders_int, scalars_int, h0, hml, hp, hat, Nat.zero_add, hset, show p + 1 ≤ t.length by omega, e, hl1, hcell, g1]
      · rw [g3 i h1 (by omega) (.inr ?_)]
        · rw [e3 i (by
            rcases hc with hc | hc
            · right; simp [hc]
            · exact .inl hc) (by omega), List.getElem?_set]
          have : ¬ 0 = i := by omega
          simp only [this, if_false]
        · rcases hc with hc | hc
          · have := e5 (by simp [hc]); omega
          · by_cases hln : l = []
            · have := e5 (by simp [hln]); omega
            · have := e6 (by intro c; apply hln; simpa using c); omega
      · have hb1 := e5 (by simp [hl])
        have := g7 (by simp)
        omega
      · have := e6 (by intro c; apply hl; simpa using c)
        have := g7 (by simp)
        omega
theorem ringsL_loop (nl ex : Bool) (sz : Nat) {t : List Nat} (D : Td t) (R : List (List Nat)) (n : Nat) : ∀ (k met : Nat) (out : List (List Nat)) (v : LV) (m : LMem), k + n = t.length → ringsG t n k met out = some R → m[0]? = some ⟨mb met t.length, true⟩ → Lst m v 1 out.length (rowsL out) → (∀ i, isBlk v i → 1 ≤ i) → out.length ≤ k →
    ∃ v' m', exF LP law13_rings.L1 [(0, IL nl ex sz (ci t)), (3, v), (4, .sl 0 0 t.length t.length 0 1 t.length), (12, .int .i64 (t.length : Int)), (13, .int .i64 (k : Int))] m = some (.exit 0, [(3, v')], m') ∧ Lst m' v' 1 R.length (rowsL R) := by
  have h7 := D.h7
  induction n with
  | zero =>
    intro k met out v m hk h h0 hv hv1 ho
    have h := Option.some.inj h
    subst h
    refine ⟨v, m, ?_, hv⟩
    rw [law13_rings.L1_eq]
    simp only [law13_rings.B1, beqT, beqF, exF_seq, exF_region, exF_block, exF_cond, exF_ret, exF_exit, exF_skip, runL, wantL, stepL, evL, LEnv.at, putL, loadFine, loadL, cellsAt, Trk.putNew, Trk.up, Trk.touch, Trk.gives, Trk.calm, Trk.hit, opdsOf, Trk.fresh, LEnv.keep, LEnv.ofFrom, List.map_cons, List.map_nil, nbeq, nble, nblt, ofAV, ofAVs, lenL, bin_add, bin_sub, bin_mul, bin_eql, bin_neq, bin_lss, bin_leq, bin_gtr, bin_geq, natL_nat, natL_zero, natL_one, natL_two, Nat.zero_mul, List.any_cons, List.any_nil, Bool.or_false, Bool.false_or, Bool.true_or, Bool.or_true, Bool.and_true, Bool.true_and, Bool.and_false, Bool.false_and, Bool.not_true, Bool.not_false, Nat.reduceBEq, Nat.reduceEqDiff, decide_true, decide_false, cond_true, cond_false, List.filter_nil, List.filter_cons, Nat.reduceAdd, Nat.reduceLeDiff, reduceCtorEq, List.length_nil, List.length_cons, Nat.mul_one, if_true, if_false, Bool.false_eq_true, eq_self, and_true, true_and, retL, resultsL, resAllL, resOfL, List.append_nil, List.nil_append, List.cons_append, true_or, or_true, false_or, or_false, false_and, and_false, not_true_eq_false, not_false_eq_true, ne_eq, unL, trim_nil, views_pures, LV.pures, LV.pure, freeze, Nat.reduceDiv, Int.reduceEq, Int.reduceLT, Int.reduceLE, Int.natCast_zero, LV.cells, allocL, List.getElem?_cons_zero, List.getElem?_cons_succ, storeL, spliceL, List.take_zero, List.take_succ_cons, List.drop_zero, List.drop_succ_cons, List.drop_nil, List.take_nil, Nat.le_refl, Nat.reduceMul, List.set_cons_zero, List.set_cons_succ, LV.scalar, List.all_cons, List.all_nil, Nat.lt_add_one, Nat.zero_lt_one, Nat.reduceLT, Nat.lt_irrefl, fillL, List.length_append, foldIntL, kind_beq, pures_int, solids_int, plains_int, unders_int, scalars_int, show ¬ ((k : Int) < (t.length : Int)) by omega]
  | succ n ih =>
    intro k met out v m hk h h0 hv hv1 ho
    rw [ringsG] at h
    cases hw : walkF t 9 met k [] with
    | none => rw [hw] at h; cases h
    | some r =>
      obtain ⟨l, met'⟩ := r
      rw [hw] at h
      simp only at h
      obtain ⟨m1, b1, e1, e0, e2, e3, e4, e5, _⟩ := walkL_loop nl ex sz D v (.int .i64 (t.length : Int)) (.int .i64 (k : Int)) l met' 9 met k [] m 1 hw (by omega) (by simp) h0 (fun c => absurd rfl c)
      cases l with
      | nil =>
        have hv2 : Lst m1 v 1 out.length (rowsL out) := hv.mono fun i hi => e3 i (hv1 i hi) (hv.lt i hi) (.inl rfl)
        obtain ⟨v', m', g1, g2⟩ := ih (k + 1) met' out v m1 (by omega) h e0 hv2 hv1 (by omega)
        refine ⟨v', m', ?_, g2⟩
        have e1 : exF LP law13_rings.L0 [(0, IL nl ex sz (ci t)), (3, v), (4, .sl 0 0 t.length t.length 0 1 t.length), (6, .lst true true 0 0 []), (7, .int .i64 (k : Int)), (12, .int .i64 (t.length : Int)), (13, .int .i64 (k : Int))] m = some (.exit 2, [(0, IL nl ex sz (ci t)), (3, v), (4, .sl 0 0 t.length t.length 0 1 t.length), (6, .lst true true 0 0 []), (12, .int .i64 (t.length : Int)), (13, .int .i64 (k : Int))], m1) := e1
        rw [law13_rings.L1_eq]
        simp only [law13_rings.B1, beqT, beqF, exF_seq, exF_region, exF_block, exF_cond, exF_ret, exF_exit, exF_skip, runL, wantL, stepL, evL, LEnv.at, putL, loadFine, loadL, cellsAt, Trk.putNew, Trk.up, Trk.touch, Trk.gives, Trk.calm, Trk.hit, opdsOf, Trk.fresh, LEnv.keep, LEnv.ofFrom, List.map_cons, List.map_nil, nbeq, nble, nblt, ofAV, ofAVs, lenL, bin_add, bin_sub, bin_mul, bin_eql, bin_neq, bin_lss, bin_leq, bin_gtr, bin_geq, natL_nat, natL_zero, natL_one, natL_two, Nat.zero_mul, List.any_cons, List.any_nil, Bool.or_false, Bool.false_or, Bool.true_or, Bool.or_true, Bool.and_true, Bool.true_and, Bool.and_false, Bool.false_and, Bool.not_true, Bool.not_false, Nat.reduceBEq, Nat.reduceEqDiff, decide_true, decide_false, cond_true, cond_false, List.filter_nil, List.filter_cons, Nat.reduceAdd, Nat.reduceLeDiff, reduceCtorEq, List.length_nil, List.length_cons, Nat.mul_one, if_true, if_false, Bool.false_eq_true, eq_self, and_true, true_and, retL, resultsL, resAllL, resOfL, List.append_nil, List.nil_append, List.cons_append, true_or, or_true, false_or, or_false, false_and, and_false, not_true_eq_false, not_false_eq_true, ne_eq, unL, trim_nil, views_pures, LV.pures, LV.pure, freeze, Nat.reduceDiv, Int.reduceEq, Int.reduceLT, Int.reduceLE, Int.natCast_zero, LV.cells, allocL, List.getElem?_cons_zero, List.getElem?_cons_succ, storeL, spliceL, List.take_zero, List.take_succ_cons, List.drop_zero, List.drop_succ_cons, List.drop_nil, List.take_nil, Nat.le_refl, Nat.reduceMul, List.set_cons_zero, List.set_cons_succ, LV.scalar, List.all_cons, List.all_nil, Nat.lt_add_one, Nat.zero_lt_one, Nat.reduceLT, Nat.lt_irrefl, fillL, List.length_append, foldIntL, kind_beq, pures_int, solids_int, plains_int, unders_int, scalars_int, show ((k : Int) < (t.length : Int)) by omega, e1, eqsL, nilOf, Bool.xor_true, Bool.true_xor, wrap_succ (show k + 1 < 9223372036854775808 by omega), g1]
      | cons a r =>
        have hne : (a :: r) ≠ [] := by simp
        generalize (a :: r) = l at *
        have ha : addRow out l = out ++ [l] := by cases l with
          | nil => exact absurd rfl hne
          | cons a r => rfl
        rw [ha] at h
        have hcn : ci l ≠ [] := ci_ne hne
        have hb1 := e5 rfl hne
        obtain ⟨hb0, hbm⟩ := e2 hne
        have e1 : exF LP law13_rings.L0 [(0, IL nl ex sz (ci t)), (3, v), (4, .sl 0 0 t.length t.length 0 1 t.length), (6, .lst true true 0 0 []), (7, .int .i64 (k : Int)), (12, .int .i64 (t.length : Int)), (13, .int .i64 (k : Int))] m = _ := e1
        have hvw : views m1 [GV b1 (ci l)] = some ([RLn l], [b1]) := by
          have h1 := fun k => view_gv k m1 b1 (ci l) true (fun _ => hbm)
          simp only [if_neg hcn] at h1
          exact views_one 32 _ _ _ _ h1 (by simp [LV.pures, LV.pure, GV, hcn])
        have hv2 : Lst (freeze [b1] m1) v 1 out.length (rowsL out) := hv.mono fun i hi => by
          have := hv.lt i hi
          rw [Go.Am.G.freeze_get i [b1] m1 (by simp; omega)]
          exact e3 i (hv1 i hi) this (.inl rfl)
        have hf0 : (freeze [b1] m1)[0]? = some ⟨mb met' t.length, true⟩ := by
          rw [Go.Am.G.freeze_get 0 [b1] m1 (by simp; omega)]; exact e0
        obtain ⟨v2, m2, f1, f2, f3, f4, f5⟩ := hv2.append (x := .lst false true 1 1 [RLn l]) (k := 1) (bytes := 24) (news := [RLn l]) rfl rfl (by omega) (by omega) rfl
        have er : rowsL (out ++ [l]) = rowsL out ++ [RLn l] := by simp [rowsL]
        rw [← er] at f2
        have hm0 : 0 < (freeze [b1] m1).length := (List.getElem?_eq_some_iff.1 hf0).1
        have hg0 : m2[0]? = some ⟨mb met' t.length, true⟩ := by
          rw [f3 0 hm0 (fun c => by have := hv1 0 c; omega)]; exact hf0
        have hv3 : ∀ i, isBlk v2 i → 1 ≤ i := fun i hi => by
          rcases f5 i hi with c | c
          · exact hv1 i c
          · omega
        obtain ⟨v', m', g1, g2⟩ := ih (k + 1) met' (out ++ [l]) v2 m2 (by omega) h hg0 (by rw [List.length_append]; exact f2) hv3 (by simp; omega)
        refine ⟨v', m', ?_, g2⟩
        have hcells : (GV b1 (ci l)).cells = some [GV b1 (ci l)] := by simp [GV, hcn, LV.cells]
        have hnil : nilOf (GV b1 (ci l)) = some false := by simp [GV, hcn, nilOf]
        rw [law13_rings.L1_eq]
        simp only [law13_rings.B1, beqT, beqF, exF_seq, exF_region, exF_block, exF_cond, exF_ret, exF_exit, exF_skip, runL, wantL, stepL, evL, LEnv.at, putL, loadFine, loadL, cellsAt, Trk.putNew, Trk.up, Trk.touch, Trk.gives, Trk.calm, Trk.hit, opdsOf, Trk.fresh, LEnv.keep, LEnv.ofFrom, List.map_cons, List.map_nil, nbeq, nble, nblt, ofAV, ofAVs, lenL, bin_add, bin_sub, bin_mul, bin_eql, bin_neq, bin_lss, bin_leq, bin_gtr, bin_geq, natL_nat, natL_zero, natL_one, natL_two, Nat.zero_mul, List.any_cons, List.any_nil, Bool.or_false, Bool.false_or, Bool.true_or, Bool.or_true, Bool.and_true, Bool.true_and, Bool.and_false, Bool.false_and, Bool.not_true, Bool.not_false, Nat.reduceBEq, Nat.reduceEqDiff, decide_true, decide_false, cond_true, cond_false, List.filter_nil, List.filter_cons, Nat.reduceAdd, Nat.reduceLeDiff, reduceCtorEq, List.length_nil, List.length_cons, Nat.mul_one, if_true, if_false, Bool.false_eq_true, eq_self, and_true, true_and, retL, resultsL, resAllL, resOfL, List.append_nil, List.nil_append, true_or, or_true, false_or, or_false, false_and, and_false, not_true_eq_false, not_false_eq_true, ne_eq, unL, trim_nil, LV.pures, LV.pure, Nat.reduceDiv, Int.reduceEq, Int.reduceLT, Int.reduceLE, Int.natCast_zero, allocL, List.getElem?_cons_zero, List.getElem?_cons_succ, storeL, spliceL, List.take_zero, List.take_succ_cons, List.drop_zero, List.drop_succ_cons, List.drop_nil, List.take_nil, Nat.le_refl, Nat.reduceMul, List.set_cons_zero, List.set_cons_succ, LV.scalar, List.all_cons, List.all_nil, Nat.lt_add_one, Nat.zero_lt_one, Nat.reduceLT, Nat.lt_irrefl, fillL, foldIntL, kind_beq, pures_int, solids_int, plains_int, unders_int, scalars_int, show ((k : Int) < (t.length : Int)) by omega, e1, eqsL, hnil, show nilOf (.lst true true 0 0 []) = some true from rfl, Bool.xor_true, Bool.true_xor, hcells, hvw, f1, wrap_succ (show k + 1 < 9223372036854775808 by omega), g1]
theorem ringsL_c (nl ex : Bool) (sz : Nat) {t : List Nat} (D : Td t) {R : List (List Nat)} {n : Nat} (K : Known t R n) : ∃ a b, ∀ m, clF LP n_law13_rings [IL nl ex sz (ci t)] m = some (.P, .lst a b 1 R.length (rowsL R), m) := by
  have h7 := D.h7
  have hz : zerosL [.bool false] t.length = mb 0 t.length := by
    simp [zerosL, mb, Nat.mod_one]
  obtain ⟨v, m1, h1, h2⟩ := ringsL_loop nl ex sz D R t.length 0 0 [] (.lst true true 0 0 []) [⟨mb 0 t.length, true⟩] (by omega) K.hp rfl (Lst.nil _ _) (fun i c => by cases c) (by simp)
  obtain ⟨a, b, c, ids, hc, _, _, hv⟩ := h2.view (rowsL_pures _) (by omega)
  obtain rfl : c = 1 := by
    rcases hc with c | c
    · have := K.h0; omega
    · exact c
  simp only [Int.natCast_zero] at h1
  have r1 : t.length ≤ roomMost := by unfold roomMost; omega
  have hl1 := ci_len t
  refine ⟨a, b, fun m => call_Pv lp_law13_rings rfl (by simp [LV.pures, LV.pure]) ?_ (hv 37) m⟩
  generalize ci t = tt at *
  simp only [law13_rings, law13_rings.B, beqT, beqF, exF_seq, exF_region, exF_block, exF_cond, exF_ret, exF_exit, exF_skip, runL, wantL, stepL, evL, LEnv.at, putL, loadFine, loadL, cellsAt, Trk.putNew, Trk.up, Trk.touch, Trk.gives, Trk.calm, Trk.hit, opdsOf, Trk.fresh, LEnv.keep, LEnv.ofFrom, List.map_cons, List.map_nil, nbeq, nble, nblt, ofAV, ofAVs, lenL, bin_add, bin_sub, bin_mul, bin_eql, bin_neq, bin_lss, bin_leq, bin_gtr, bin_geq, natL_nat, natL_zero, natL_one, natL_two, Nat.zero_mul, List.any_cons, List.any_nil, Bool.or_false, Bool.false_or, Bool.true_or, Bool.or_true, Bool.and_true, Bool.true_and, Bool.and_false, Bool.false_and, Bool.not_true, Bool.not_false, Nat.reduceBEq, Nat.reduceEqDiff, decide_true, decide_false, cond_true, cond_false, List.filter_nil, List.filter_cons, Nat.reduceAdd, Nat.reduceLeDiff, reduceCtorEq, List.length_nil, List.length_cons, Nat.mul_one, if_true, if_false, Bool.false_eq_true, eq_self, and_true, true_and, retL, resultsL, resAllL, resOfL, List.append_nil, List.nil_append, List.cons_append, true_or, or_true, false_or, or_false, false_and, and_false, not_true_eq_false, not_false_eq_true, ne_eq, unL, trim_nil, views_pures, LV.pures, LV.pure, freeze, Nat.reduceDiv, Int.reduceEq, Int.reduceLT, Int.reduceLE, Int.natCast_zero, LV.cells, allocL, List.getElem?_cons_zero, List.getElem?_cons_succ, storeL, spliceL, List.take_zero, List.take_succ_cons, List.drop_zero, List.drop_succ_cons, List.drop_nil, List.take_nil, Nat.le_refl, Nat.reduceMul, List.set_cons_zero, List.set_cons_succ, LV.scalar, List.all_cons, List.all_nil, Nat.lt_add_one, Nat.zero_lt_one, Nat.reduceLT, Nat.lt_irrefl, fillL, List.length_append, foldIntL, kind_beq, pures_int, solids_int, plains_int, unders_int, scalars_int, hl1, r1, ofAVs, ofAV, hz, h1]

def allI (f : Nat → Bool) : Nat → Bool
  | 0 => true
  | n + 1 => cond (f n) (allI f n) false
theorem allI_ok (f : Nat → Bool) (n : Nat) (h : allI f n = true) : ∀ i, i < n → f i = true := by
  induction n with
  | zero => intro i hi; omega
  | succ n ih =>
    intro i hi
    obtain ⟨a, b⟩ := cond_split h
    by_cases e : i = n
    · subst e; exact a
    · exact ih b i (by omega)
end Go.Am.Wash


/-
  Plain: what is tried of tides of at most seven places: a half is found just if the number of halves says so; after how many tides all is back. No statement of the seat is proved here.
-/
set_option linter.unusedVariables false
set_option linter.unusedSimpArgs false
namespace Go.Am.Wash
def decL : List Nat → List Nat
  | [] => []
  | x :: r => (x - 1) :: decL r
def oddN (R : List (List Nat)) : Nat := (cntN R 2 + cntN R 4 + cntN R 6) % 2
/-- What is tried. -/
def chkW (t : List Nat) : Bool := match ringsP t with
  | some R => match prodF R 8 0 1 with
    | some N => match bkF t (idN t.length 0) 20 1 t with
      | some b => cond (Nat.ble b 12) (cond (Nat.beq N 0) (Nat.beq (b % 2) 0) (match putF t t.length t.length (List.replicate t.length 0) with
        | some (true, h) => cond (allN (fun x => cond (Nat.blt 0 x) (Nat.ble x t.length) false) h) (cond (eqN (mapN (decL h) (decL h)) t) (Nat.beq (oddN R) 0) false) false
        | _ => false)) false
      | none => false
    | none => false
  | none => false
theorem w1 : allP 1 chkW 1 [] = true := by kernel_rfl
theorem w2 : allP 2 chkW 2 [] = true := by kernel_rfl
theorem w3 : allP 3 chkW 3 [] = true := by kernel_rfl
theorem w4 : allP 4 chkW 4 [] = true := by kernel_rfl
theorem w5 : allP 5 chkW 5 [] = true := by kernel_rfl
theorem w6_0 : allP 6 chkW 5 [0] = true := by kernel_rfl
theorem w6_1 : allP 6 chkW 5 [1] = true := by kernel_rfl
theorem w6_2 : allP 6 chkW 5 [2] = true := by kernel_rfl
theorem w6_3 : allP 6 chkW 5 [3] = true := by kernel_rfl
theorem w6_4 : allP 6 chkW 5 [4] = true := by kernel_rfl
theorem w6_5 : allP 6 chkW 5 [5] = true := by kernel_rfl
theorem w6 : allP 6 chkW 6 [] = true := allP_one 6 chkW 5 [] fun y hy _ => match y, hy with
  | 0, _ => w6_0 | 1, _ => w6_1 | 2, _ => w6_2 | 3, _ => w6_3 | 4, _ => w6_4 | 5, _ => w6_5
end Go.Am.Wash


