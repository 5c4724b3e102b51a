/-
  What functions of chapter 13 compute, 13: how many halves and friends there are, by the program.
-/
import Derived.Test.YtgogknjedpmcgaaWashC12
set_option linter.unusedVariables false
set_option linter.unusedSimpArgs false
set_option maxRecDepth 10000
namespace Go.Am.Wash
open Go.Am.G

/-! ### Mates -/
theorem matN_step (m k : Nat) : matN m (k + 2) = cond (Nat.beq (m % 2) 1) (matN m (k + 1)) 0 + (k + 1) * m * matN m k := by rw [matN]
theorem matN_le (m : Nat) (hm : m ≤ 7) (k : Nat) : ∀ j, j ≤ k → j ≤ 7 → matN m j ≤ 100 ^ j := by
  induction k with
  | zero => intro j hj _; obtain rfl : j = 0 := by omega
            simp [matN]
  | succ k ih =>
    intro j hj h7
    by_cases c : j ≤ k
    · exact ih j c h7
    · obtain rfl : j = k + 1 := by omega
      cases k with
      | zero => rw [matN]; cases Nat.beq (m % 2) 1 <;> simp
      | succ k =>
        have h1 := ih (k + 1) (by omega) (by omega)
        have h2 := ih k (by omega) (by omega)
        have e : 100 ^ (k + 1 + 1) = 100 * 100 ^ (k + 1) := by rw [Nat.pow_succ, Nat.mul_comm]
        have e2 : 100 ^ (k + 1) = 100 * 100 ^ k := by rw [Nat.pow_succ, Nat.mul_comm]
        have h3 : (k + 1) * m ≤ 49 := Nat.le_trans (Nat.mul_le_mul (show k + 1 ≤ 7 by omega) hm) (by omega)
        have h4 : (k + 1) * m * matN m k ≤ 49 * 100 ^ k := Nat.mul_le_mul h3 h2
        rw [matN_step]
        cases Nat.beq (m % 2) 1
        · simp only [cond_false]; omega
        · simp only [cond_true]; omega
theorem mates_c (m : Nat) (hm : m ≤ 7) (k : Nat) : k ≤ 7 → ∀ M, clF LP n_wash_mates [.int .i64 (m : Int), .int .i64 (k : Int)] M = some (.P, .int .i64 (matN m k : Int), M) := by
  induction k using Nat.strongRecOn with
  | ind k ih =>
    intro h7 M
    have r1 := (rem2 m).2
    refine call_P lp_wash_mates rfl (by simp [LV.pures, LV.pure]) (m1 := []) ?_ rfl M
    match k, ih, h7 with
    | 0, _, _ =>
      simp only [wash_mates, wash_mates.B, beqT, beqF, exF_seq, exF_region, exF_block, exF_cond, exF_ret, exF_exit, exF_skip, runL, wantL, stepL, evL, LEnv.at, putL, loadFine, loadL, cellsAt, Trk.putNew, Trk.up, Trk.touch, Trk.gives, Trk.calm, Trk.hit, opdsOf, Trk.fresh, LEnv.keep, LEnv.ofFrom, List.map_cons, List.map_nil, nbeq, nble, nblt, ofAV, ofAVs, lenL, bin_add, bin_sub, bin_mul, bin_eql, bin_neq, bin_lss, bin_leq, bin_gtr, bin_geq, natL_nat, natL_zero, natL_one, natL_two, Nat.zero_mul, List.any_cons, List.any_nil, Bool.or_false, Bool.false_or, Bool.true_or, Bool.or_true, Bool.and_true, Bool.true_and, Bool.and_false, Bool.false_and, Bool.not_true, Bool.not_false, Nat.reduceBEq, Nat.reduceEqDiff, decide_true, decide_false, cond_true, cond_false, List.filter_nil, List.filter_cons, Nat.reduceAdd, Nat.reduceLeDiff, reduceCtorEq, List.length_nil, List.length_cons, Nat.mul_one, if_true, if_false, Bool.false_eq_true, eq_self, and_true, true_and, retL, resultsL, resAllL, resOfL, List.append_nil, List.nil_append, List.cons_append, true_or, or_true, false_or, or_false, false_and, and_false, not_true_eq_false, not_false_eq_true, ne_eq, unL, trim_nil, views_pures, LV.pures, LV.pure, freeze, Nat.reduceDiv, Int.reduceEq, Int.reduceLT, Int.reduceLE, Int.natCast_zero, LV.cells, allocL, List.getElem?_cons_zero, List.getElem?_cons_succ, storeL, spliceL, List.take_zero, List.take_succ_cons, List.drop_zero, List.drop_succ_cons, List.drop_nil, List.take_nil, Nat.le_refl, Nat.reduceMul, List.set_cons_zero, List.set_cons_succ, LV.scalar, List.all_cons, List.all_nil, Nat.lt_add_one, Nat.zero_lt_one, Nat.reduceLT, Nat.lt_irrefl, fillL, List.length_append, foldIntL, kind_beq, pures_int, solids_int, plains_int, unders_int, scalars_int]
      rfl
    | 1, ih, _ =>
      have i0 := ih 0 (by omega) (by omega)
      simp only [Int.natCast_zero] at i0
      have z0 : matN m 0 = 1 := rfl
      by_cases o : m % 2 = 1
      · have o' : ((m % 2 : Nat) : Int) = 1 := by omega
        have e : matN m 1 = 1 := by rw [matN, o]; rfl
        simp only [wash_mates, wash_mates.B, beqT, beqF, exF_seq, exF_region, exF_block, exF_cond, exF_ret, exF_exit, exF_skip, runL, wantL, stepL, evL, LEnv.at, putL, loadFine, loadL, cellsAt, Trk.putNew, Trk.up, Trk.touch, Trk.gives, Trk.calm, Trk.hit, opdsOf, Trk.fresh, LEnv.keep, LEnv.ofFrom, List.map_cons, List.map_nil, nbeq, nble, nblt, ofAV, ofAVs, lenL, bin_add, bin_sub, bin_mul, bin_eql, bin_neq, bin_lss, bin_leq, bin_gtr, bin_geq, natL_nat, natL_zero, natL_one, natL_two, Nat.zero_mul, List.any_cons, List.any_nil, Bool.or_false, Bool.false_or, Bool.true_or, Bool.or_true, Bool.and_true, Bool.true_and, Bool.and_false, Bool.false_and, Bool.not_true, Bool.not_false, Nat.reduceBEq, Nat.reduceEqDiff, decide_true, decide_false, cond_true, cond_false, List.filter_nil, List.filter_cons, Nat.reduceAdd, Nat.reduceLeDiff, reduceCtorEq, List.length_nil, List.length_cons, Nat.mul_one, if_true, if_false, Bool.false_eq_true, eq_self, and_true, true_and, retL, resultsL, resAllL, resOfL, List.append_nil, List.nil_append, List.cons_append, true_or, or_true, false_or, or_false, false_and, and_false, not_true_eq_false, not_false_eq_true, ne_eq, unL, trim_nil, views_pures, LV.pures, LV.pure, freeze, Nat.reduceDiv, Int.reduceEq, Int.reduceLT, Int.reduceLE, Int.natCast_zero, LV.cells, allocL, List.getElem?_cons_zero, List.getElem?_cons_succ, storeL, spliceL, List.take_zero, List.take_succ_cons, List.drop_zero, List.drop_succ_cons, List.drop_nil, List.take_nil, Nat.le_refl, Nat.reduceMul, List.set_cons_zero, List.set_cons_succ, LV.scalar, List.all_cons, List.all_nil, Nat.lt_add_one, Nat.zero_lt_one, Nat.reduceLT, Nat.lt_irrefl, fillL, List.length_append, foldIntL, kind_beq, pures_int, solids_int, plains_int, unders_int, scalars_int, Int.natCast_one, bin_rem _ _ _ (show (2 : Int) ≠ 0 by omega), r1, o', show IntKind.i64.wrap ((1 : Int) - 1) = 0 from rfl, i0, z0, e]
      · have o' : ¬ ((m % 2 : Nat) : Int) = 1 := by omega
        have e : matN m 1 = 0 := by
          rw [matN]
          have : Nat.beq (m % 2) 1 = false := by rw [nbeq]; simpa using o
          rw [this]; rfl
        simp only [wash_mates, wash_mates.B, beqT, beqF, exF_seq, exF_region, exF_block, exF_cond, exF_ret, exF_exit, exF_skip, runL, wantL, stepL, evL, LEnv.at, putL, loadFine, loadL, cellsAt, Trk.putNew, Trk.up, Trk.touch, Trk.gives, Trk.calm, Trk.hit, opdsOf, Trk.fresh, LEnv.keep, LEnv.ofFrom, List.map_cons, List.map_nil, nbeq, nble, nblt, ofAV, ofAVs, lenL, bin_add, bin_sub, bin_mul, bin_eql, bin_neq, bin_lss, bin_leq, bin_gtr, bin_geq, natL_nat, natL_zero, natL_one, natL_two, Nat.zero_mul, List.any_cons, List.any_nil, Bool.or_false, Bool.false_or, Bool.true_or, Bool.or_true, Bool.and_true, Bool.true_and, Bool.and_false, Bool.false_and, Bool.not_true, Bool.not_false, Nat.reduceBEq, Nat.reduceEqDiff, decide_true, decide_false, cond_true, cond_false, List.filter_nil, List.filter_cons, Nat.reduceAdd, Nat.reduceLeDiff, reduceCtorEq, List.length_nil, List.length_cons, Nat.mul_one, if_true, if_false, Bool.false_eq_true, eq_self, and_true, true_and, retL, resultsL, resAllL, resOfL, List.append_nil, List.nil_append, List.cons_append, true_or, or_true, false_or, or_false, false_and, and_false, not_true_eq_false, not_false_eq_true, ne_eq, unL, trim_nil, views_pures, LV.pures, LV.pure, freeze, Nat.reduceDiv, Int.reduceEq, Int.reduceLT, Int.reduceLE, Int.natCast_zero, LV.cells, allocL, List.getElem?_cons_zero, List.getElem?_cons_succ, storeL, spliceL, List.take_zero, List.take_succ_cons, List.drop_zero, List.drop_succ_cons, List.drop_nil, List.take_nil, Nat.le_refl, Nat.reduceMul, List.set_cons_zero, List.set_cons_succ, LV.scalar, List.all_cons, List.all_nil, Nat.lt_add_one, Nat.zero_lt_one, Nat.reduceLT, Nat.lt_irrefl, fillL, List.length_append, foldIntL, kind_beq, pures_int, solids_int, plains_int, unders_int, scalars_int, Int.natCast_one, bin_rem _ _ _ (show (2 : Int) ≠ 0 by omega), r1, o', e]
    | k + 2, ih, h7 =>
      have i1 := ih (k + 1) (by omega) (by omega)
      have i0 := ih k (by omega) (by omega)
      have b1 := matN_le m hm (k + 1) (k + 1) (by omega) (by omega)
      have b0 := matN_le m hm k k (by omega) (by omega)
      have p1 : 100 ^ (k + 1) ≤ 100 ^ 7 := Nat.pow_le_pow_right (by omega) (by omega)
      have p0 : 100 ^ k ≤ 100 ^ 7 := Nat.pow_le_pow_right (by omega) (by omega)
      have h3 : (k + 1) * m ≤ 49 := Nat.le_trans (Nat.mul_le_mul (show k + 1 ≤ 7 by omega) hm) (by omega)
      have h4 : (k + 1) * m * matN m k ≤ 49 * 100 ^ 7 := Nat.mul_le_mul h3 (by omega)
      have st := matN_step m k
      generalize matN m (k + 2) = r at *
      generalize matN m (k + 1) = x1 at *
      generalize matN m k = x0 at *
      have w1 : IntKind.i64.wrap (((k + 2 : Nat) : Int) - 1) = ((k + 1 : Nat) : Int) := by rw [wrap_in (by omega)]; omega
      have w2 : IntKind.i64.wrap (((k + 2 : Nat) : Int) - 2) = ((k : Nat) : Int) := by rw [wrap_in (by omega)]; omega
      have w3 : IntKind.i64.wrap (((k + 1 : Nat) : Int) * (m : Int)) = (((k + 1) * m : Nat) : Int) := by rw [← Int.natCast_mul, wrap_in (by omega)]
      have w4 : IntKind.i64.wrap ((((k + 1) * m : Nat) : Int) * (x0 : Int)) = (((k + 1) * m * x0 : Nat) : Int) := by rw [← Int.natCast_mul, wrap_in (by omega)]
      generalize (k + 1) * m * x0 = y at *
      generalize (k + 1) * m = y2 at *
      have hk0 : ¬ ((k + 2 : Nat) : Int) = 0 := by omega
      have hk1 : (1 : Int) < ((k + 2 : Nat) : Int) := by omega
      by_cases o : m % 2 = 1
      · have o' : ((m % 2 : Nat) : Int) = 1 := by omega
        have ob : Nat.beq (m % 2) 1 = true := by rw [nbeq]; simpa using o
        rw [ob, cond_true] at st
        have w5 : IntKind.i64.wrap ((x1 : Int) + (y : Int)) = (r : Int) := by rw [wrap_in (by omega)]; omega
        simp only [wash_mates, wash_mates.B, beqT, beqF, exF_seq, exF_region, exF_block, exF_cond, exF_ret, exF_exit, exF_skip, runL, wantL, stepL, evL, LEnv.at, putL, loadFine, loadL, cellsAt, Trk.putNew, Trk.up, Trk.touch, Trk.gives, Trk.calm, Trk.hit, opdsOf, Trk.fresh, LEnv.keep, LEnv.ofFrom, List.map_cons, List.map_nil, nbeq, nble, nblt, ofAV, ofAVs, lenL, bin_add, bin_sub, bin_mul, bin_eql, bin_neq, bin_lss, bin_leq, bin_gtr, bin_geq, natL_nat, natL_zero, natL_one, natL_two, Nat.zero_mul, List.any_cons, List.any_nil, Bool.or_false, Bool.false_or, Bool.true_or, Bool.or_true, Bool.and_true, Bool.true_and, Bool.and_false, Bool.false_and, Bool.not_true, Bool.not_false, Nat.reduceBEq, Nat.reduceEqDiff, decide_true, decide_false, cond_true, cond_false, List.filter_nil, List.filter_cons, Nat.reduceAdd, Nat.reduceLeDiff, reduceCtorEq, List.length_nil, List.length_cons, Nat.mul_one, if_true, if_false, Bool.false_eq_true, eq_self, and_true, true_and, retL, resultsL, resAllL, resOfL, List.append_nil, List.nil_append, List.cons_append, true_or, or_true, false_or, or_false, false_and, and_false, not_true_eq_false, not_false_eq_true, ne_eq, unL, trim_nil, views_pures, LV.pures, LV.pure, freeze, Nat.reduceDiv, Int.reduceEq, Int.reduceLT, Int.reduceLE, Int.natCast_zero, LV.cells, allocL, List.getElem?_cons_zero, List.getElem?_cons_succ, storeL, spliceL, List.take_zero, List.take_succ_cons, List.drop_zero, List.drop_succ_cons, List.drop_nil, List.take_nil, Nat.le_refl, Nat.reduceMul, List.set_cons_zero, List.set_cons_succ, LV.scalar, List.all_cons, List.all_nil, Nat.lt_add_one, Nat.zero_lt_one, Nat.reduceLT, Nat.lt_irrefl, fillL, List.length_append, foldIntL, kind_beq, pures_int, solids_int, plains_int, unders_int, scalars_int, hk0, hk1, bin_rem _ _ _ (show (2 : Int) ≠ 0 by omega), r1, o', w1, w2, w3, w4, w5, i1, i0]
      · have o' : ¬ ((m % 2 : Nat) : Int) = 1 := by omega
        have ob : Nat.beq (m % 2) 1 = false := by rw [nbeq]; simpa using o
        rw [ob, cond_false] at st
        have w5 : IntKind.i64.wrap ((0 : Int) + (y : Int)) = (r : Int) := by rw [wrap_in (by omega)]; omega
        simp only [wash_mates, wash_mates.B, beqT, beqF, exF_seq, exF_region, exF_block, exF_cond, exF_ret, exF_exit, exF_skip, runL, wantL, stepL, evL, LEnv.at, putL, loadFine, loadL, cellsAt, Trk.putNew, Trk.up, Trk.touch, Trk.gives, Trk.calm, Trk.hit, opdsOf, Trk.fresh, LEnv.keep, LEnv.ofFrom, List.map_cons, List.map_nil, nbeq, nble, nblt, ofAV, ofAVs, lenL, bin_add, bin_sub, bin_mul, bin_eql, bin_neq, bin_lss, bin_leq, bin_gtr, bin_geq, natL_nat, natL_zero, natL_one, natL_two, Nat.zero_mul, List.any_cons, List.any_nil, Bool.or_false, Bool.false_or, Bool.true_or, Bool.or_true, Bool.and_true, Bool.true_and, Bool.and_false, Bool.false_and, Bool.not_true, Bool.not_false, Nat.reduceBEq, Nat.reduceEqDiff, decide_true, decide_false, cond_true, cond_false, List.filter_nil, List.filter_cons, Nat.reduceAdd, Nat.reduceLeDiff, reduceCtorEq, List.length_nil, List.length_cons, Nat.mul_one, if_true, if_false, Bool.false_eq_true, eq_self, and_true, true_and, retL, resultsL, resAllL, resOfL, List.append_nil, List.nil_append, List.cons_append, true_or, or_true, false_or, or_false, false_and, and_false, not_true_eq_false, not_false_eq_true, ne_eq, unL, trim_nil, views_pures, LV.pures, LV.pure, freeze, Nat.reduceDiv, Int.reduceEq, Int.reduceLT, Int.reduceLE, Int.natCast_zero, LV.cells, allocL, List.getElem?_cons_zero, List.getElem?_cons_succ, storeL, spliceL, List.take_zero, List.take_succ_cons, List.drop_zero, List.drop_succ_cons, List.drop_nil, List.take_nil, Nat.le_refl, Nat.reduceMul, List.set_cons_zero, List.set_cons_succ, LV.scalar, List.all_cons, List.all_nil, Nat.lt_add_one, Nat.zero_lt_one, Nat.reduceLT, Nat.lt_irrefl, fillL, List.length_append, foldIntL, kind_beq, pures_int, solids_int, plains_int, unders_int, scalars_int, hk0, hk1, bin_rem _ _ _ (show (2 : Int) ≠ 0 by omega), r1, o', w1, w2, w3, w4, w5, i1, i0]

/-! ### Halves -/
theorem halvesP_loop {t : List Nat} {R : List (List Nat)} {z : Nat} (K : Known t R z) (n : Nat) : ∀ (i a r : Nat), i + n = 8 → a ≤ 1152921504606846976 → prodF R n i a = some r →
    exF LP wash_Halves.L0 [(5, .int .i64 (a : Int)), (14, .agg (ints (ci (kindL R)))), (15, .int .i64 (i : Int))] [] = some (.exit 0, [(5, .int .i64 (r : Int))], []) := by
  have hR := fun l hl => (K.rows l hl).2.1
  induction n with
  | zero =>
    intro i a r hi ha h
    obtain rfl : a = r := by simpa [prodF] using h
    rw [wash_Halves.L0_eq]
    simp only [wash_Halves.B0, beqT, beqF, exF_seq, exF_region, exF_block, exF_cond, exF_ret, exF_exit, exF_skip, runL, wantL, stepL, evL, LEnv.at, putL, loadFine, loadL, cellsAt, Trk.putNew, Trk.up, Trk.touch, Trk.gives, Trk.calm, Trk.hit, opdsOf, Trk.fresh, LEnv.keep, LEnv.ofFrom, List.map_cons, List.map_nil, nbeq, nble, nblt, ofAV, ofAVs, lenL, bin_add, bin_sub, bin_mul, bin_eql, bin_neq, bin_lss, bin_leq, bin_gtr, bin_geq, natL_nat, natL_zero, natL_one, natL_two, Nat.zero_mul, List.any_cons, List.any_nil, Bool.or_false, Bool.false_or, Bool.true_or, Bool.or_true, Bool.and_true, Bool.true_and, Bool.and_false, Bool.false_and, Bool.not_true, Bool.not_false, Nat.reduceBEq, Nat.reduceEqDiff, decide_true, decide_false, cond_true, cond_false, List.filter_nil, List.filter_cons, Nat.reduceAdd, Nat.reduceLeDiff, reduceCtorEq, List.length_nil, List.length_cons, Nat.mul_one, if_true, if_false, Bool.false_eq_true, eq_self, and_true, true_and, retL, resultsL, resAllL, resOfL, List.append_nil, List.nil_append, List.cons_append, true_or, or_true, false_or, or_false, false_and, and_false, not_true_eq_false, not_false_eq_true, ne_eq, unL, trim_nil, views_pures, LV.pures, LV.pure, freeze, Nat.reduceDiv, Int.reduceEq, Int.reduceLT, Int.reduceLE, Int.natCast_zero, LV.cells, allocL, List.getElem?_cons_zero, List.getElem?_cons_succ, storeL, spliceL, List.take_zero, List.take_succ_cons, List.drop_zero, List.drop_succ_cons, List.drop_nil, List.take_nil, Nat.le_refl, Nat.reduceMul, List.set_cons_zero, List.set_cons_succ, LV.scalar, List.all_cons, List.all_nil, Nat.lt_add_one, Nat.zero_lt_one, Nat.reduceLT, Nat.lt_irrefl, fillL, List.length_append, foldIntL, kind_beq, pures_int, solids_int, plains_int, unders_int, scalars_int, show ¬ ((i : Int) < 8) by omega]
  | succ n ih =>
    intro i a r hi ha h
    have cc := kind_cell R hR i (by omega)
    have hcl := cnt_le R i
    have h8 := K.h8
    have hm := mates_c i (by omega) (cnt R i) (by omega)
    rw [prodF, cntN_eq] at h
    cases c : Nat.ble (a * matN i (cnt R i)) 1152921504606846976
    · rw [c] at h; cases h
    · rw [c, cond_true] at h
      rw [nble, decide_eq_true_eq] at c
      have ih := ih (i + 1) _ r (by omega) c h
      generalize ints (ci (kindL R)) = w at *
      generalize cnt R i = x at *
      generalize matN i x = y at *
      have w1 : IntKind.i64.wrap ((a : Int) * (y : Int)) = ((a * y : Nat) : Int) := by rw [← Int.natCast_mul, wrap_in (by omega)]
      rw [wash_Halves.L0_eq]
      simp only [wash_Halves.B0, beqT, beqF, exF_seq, exF_region, exF_block, exF_cond, exF_ret, exF_exit, exF_skip, runL, wantL, stepL, evL, LEnv.at, putL, loadFine, loadL, cellsAt, Trk.putNew, Trk.up, Trk.touch, Trk.gives, Trk.calm, Trk.hit, opdsOf, Trk.fresh, LEnv.keep, LEnv.ofFrom, List.map_cons, List.map_nil, nbeq, nble, nblt, ofAV, ofAVs, lenL, bin_add, bin_sub, bin_mul, bin_eql, bin_neq, bin_lss, bin_leq, bin_gtr, bin_geq, natL_nat, natL_zero, natL_one, natL_two, Nat.zero_mul, List.any_cons, List.any_nil, Bool.or_false, Bool.false_or, Bool.true_or, Bool.or_true, Bool.and_true, Bool.true_and, Bool.and_false, Bool.false_and, Bool.not_true, Bool.not_false, Nat.reduceBEq, Nat.reduceEqDiff, decide_true, decide_false, cond_true, cond_false, List.filter_nil, List.filter_cons, Nat.reduceAdd, Nat.reduceLeDiff, reduceCtorEq, List.length_nil, List.length_cons, Nat.mul_one, if_true, if_false, Bool.false_eq_true, eq_self, and_true, true_and, retL, resultsL, resAllL, resOfL, List.append_nil, List.nil_append, List.cons_append, true_or, or_true, false_or, or_false, false_and, and_false, not_true_eq_false, not_false_eq_true, ne_eq, unL, trim_nil, views_pures, LV.pures, LV.pure, freeze, Nat.reduceDiv, Int.reduceEq, Int.reduceLT, Int.reduceLE, Int.natCast_zero, LV.cells, allocL, List.getElem?_cons_zero, List.getElem?_cons_succ, storeL, spliceL, List.take_zero, List.take_succ_cons, List.drop_zero, List.drop_succ_cons, List.drop_nil, List.take_nil, Nat.le_refl, Nat.reduceMul, List.set_cons_zero, List.set_cons_succ, LV.scalar, List.all_cons, List.all_nil, Nat.lt_add_one, Nat.zero_lt_one, Nat.reduceLT, Nat.lt_irrefl, fillL, List.length_append, foldIntL, kind_beq, pures_int, solids_int, plains_int, unders_int, scalars_int, show ((i : Int) < 8) by omega, show i < 8 by omega, cc, hm, w1, wrap_succ (show i + 1 < 9223372036854775808 by omega), ih]
theorem pHalves_c (nl ex : Bool) {t : List Nat} (D : Td t) {R : List (List Nat)} {n : Nat} (K : Known t R n) (H : Halved t R) (hc : chkT (ci t) = 0) (m : LMem) : clF LP n_wash_Halves [IL nl ex 1 (ci t)] m = some (.P, .tup [.int .i64 ((halvesF t).length : Int), .int .i64 0], m) := by
  have h7 := D.h7
  have hck := fun m => check_c nl ex 1 (ci t) (by rw [ci_len]; omega) m
  rw [hc] at hck
  have hk := fun m => kindK_c nl ex 1 D K m
  have h := halvesP_loop K 8 0 1 _ rfl (by omega) H.n
  simp only [Int.natCast_zero, Int.natCast_one] at h
  generalize ints (ci (kindL R)) = w at *
  refine call_P lp_wash_Halves rfl (by simp [LV.pures, LV.pure]) (m1 := []) ?_ (by simp [LV.pures, LV.pure]) m
  simp only [wash_Halves, wash_Halves.B, beqT, beqF, exF_seq, exF_region, exF_block, exF_cond, exF_ret, exF_exit, exF_skip, runL, wantL, stepL, evL, LEnv.at, putL, loadFine, loadL, cellsAt, Trk.putNew, Trk.up, Trk.touch, Trk.gives, Trk.calm, Trk.hit, opdsOf, Trk.fresh, LEnv.keep, LEnv.ofFrom, List.map_cons, List.map_nil, nbeq, nble, nblt, ofAV, ofAVs, lenL, bin_add, bin_sub, bin_mul, bin_eql, bin_neq, bin_lss, bin_leq, bin_gtr, bin_geq, natL_nat, natL_zero, natL_one, natL_two, Nat.zero_mul, List.any_cons, List.any_nil, Bool.or_false, Bool.false_or, Bool.true_or, Bool.or_true, Bool.and_true, Bool.true_and, Bool.and_false, Bool.false_and, Bool.not_true, Bool.not_false, Nat.reduceBEq, Nat.reduceEqDiff, decide_true, decide_false, cond_true, cond_false, List.filter_nil, List.filter_cons, Nat.reduceAdd, Nat.reduceLeDiff, reduceCtorEq, List.length_nil, List.length_cons, Nat.mul_one, if_true, if_false, Bool.false_eq_true, eq_self, and_true, true_and, retL, resultsL, resAllL, resOfL, List.append_nil, List.nil_append, List.cons_append, true_or, or_true, false_or, or_false, false_and, and_false, not_true_eq_false, not_false_eq_true, ne_eq, unL, trim_nil, views_pures, LV.pures, LV.pure, freeze, Nat.reduceDiv, Int.reduceEq, Int.reduceLT, Int.reduceLE, Int.natCast_zero, LV.cells, allocL, List.getElem?_cons_zero, List.getElem?_cons_succ, storeL, spliceL, List.take_zero, List.take_succ_cons, List.drop_zero, List.drop_succ_cons, List.drop_nil, List.take_nil, Nat.le_refl, Nat.reduceMul, List.set_cons_zero, List.set_cons_succ, LV.scalar, List.all_cons, List.all_nil, Nat.lt_add_one, Nat.zero_lt_one, Nat.reduceLT, Nat.lt_irrefl, fillL, List.length_append, foldIntL, kind_beq, pures_int, solids_int, plains_int, unders_int, scalars_int, hck, hk, h]

end Go.Am.Wash

