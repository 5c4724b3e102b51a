import Derived.Test.YtcckhkcchpfdoaaShareC16
/-
  What functions of chapter 07 compute, 17: who envies, who is calm.
-/
set_option linter.unusedVariables false
set_option linter.unusedSimpArgs false
set_option maxRecDepth 10000
namespace Go.Am.Share
theorem enemy_loop (nl ex nl' ex' : Bool) (sz sz' : Nat) {rs : List Row} {o : List Int} (D : DOk rs o) (j : Nat) (n : Nat) : ∀ k, k + n = rs.length →
    exF LP share_division_enemy.L0 [(1, .int .i64 (j : Int)), (2, .ptr 0 0 2), (10, .int .i64 (rs.length : Int)), (11, .int .i64 (k : Int))] [⟨[VL nl ex sz rs, IL nl' ex' sz' o], true⟩] =
      if fstI (fun i => decide (0 < eW (vals rs) o i j)) n k = -1 then some (.exit 0, [], [⟨[VL nl ex sz rs, IL nl' ex' sz' o], true⟩]) else some (.ret, [(4, .int .i64 (fstI (fun i => decide (0 < eW (vals rs) o i j)) n k))], [⟨[VL nl ex sz rs, IL nl' ex' sz' o], true⟩]) := by
  have h4 := D.le4
  induction n with
  | zero =>
    intro k hk
    rw [share_division_enemy.L0_eq]
    simp only [share_division_enemy.B0, beqT, beqF, exF_seq, exF_region, exF_block, exF_cond, exF_ret, exF_exit, exF_skip, runL, wantL, stepL, evL, evC, LEnv.at, putL, loadFine, loadL, cellsAt, Trk.putNew, Trk.up, Trk.touch, Trk.gives, Trk.calm, Trk.hit, opdsOf, Trk.fresh, LEnv.keep, LEnv.ofFrom, List.map_cons, List.map_nil, nbeq, nble, nblt, ofAV, ofAVs, lenL, bin_add, bin_sub, bin_mul, bin_eql, bin_neq, bin_lss, bin_leq, bin_gtr, bin_geq, natL_nat, natL_zero, natL_one, natL_two, Nat.zero_mul, List.any_cons, List.any_nil, Bool.or_false, Bool.false_or, Bool.true_or, Bool.or_true, Bool.and_true, Bool.true_and, Bool.and_false, Bool.false_and, Bool.not_true, Bool.not_false, Nat.reduceBEq, Nat.reduceEqDiff, decide_true, decide_false, cond_true, cond_false, List.filter_nil, List.filter_cons, Nat.reduceAdd, Nat.reduceLeDiff, reduceCtorEq, List.length_nil, List.length_cons, Nat.mul_one, if_true, if_false, Bool.false_eq_true, eq_self, and_true, true_and, retL, resultsL, resAllL, resOfL, List.append_nil, List.nil_append, List.cons_append, true_or, or_true, false_or, or_false, false_and, and_false, not_true_eq_false, not_false_eq_true, ne_eq, unL, trim_nil, views_pures, LV.pures, LV.pure, freeze, Nat.reduceDiv, Int.reduceEq, Int.reduceLT, Int.reduceLE, Int.natCast_zero, LV.cells, allocL, List.getElem?_cons_zero, List.getElem?_cons_succ, storeL, spliceL, List.take_zero, List.take_succ_cons, List.drop_zero, List.drop_succ_cons, List.drop_nil, List.take_nil, Nat.le_refl, Nat.reduceMul, List.set_cons_zero, List.set_cons_succ, LV.scalar, List.all_cons, List.all_nil, Nat.lt_add_one, Nat.zero_lt_one, Nat.reduceLT, Nat.lt_irrefl, fillL, List.length_append, foldIntL, kind_beq, pures_int, solids_int, plains_int, unders_int, scalars_int, show ¬ ((k : Int) < (rs.length : Int)) by omega, fstI]
  | succ n ih =>
    intro k hk
    have h2 : k < rs.length := by omega
    have he := fun m => envy_d nl ex nl' ex' sz sz' D h2 j m
    rw [share_division_enemy.L0_eq, fstI]
    by_cases h1 : 0 < eW (vals rs) o k j
    · have hn : ¬ ((k : Int) = -1) := by omega
      simp only [share_division_enemy.B0, beqT, beqF, exF_seq, exF_region, exF_block, exF_cond, exF_ret, exF_exit, exF_skip, runL, wantL, stepL, evL, evC, LEnv.at, putL, loadFine, loadL, cellsAt, Trk.putNew, Trk.up, Trk.touch, Trk.gives, Trk.calm, Trk.hit, opdsOf, Trk.fresh, LEnv.keep, LEnv.ofFrom, List.map_cons, List.map_nil, nbeq, nble, nblt, ofAV, ofAVs, lenL, bin_add, bin_sub, bin_mul, bin_eql, bin_neq, bin_lss, bin_leq, bin_gtr, bin_geq, natL_nat, natL_zero, natL_one, natL_two, Nat.zero_mul, List.any_cons, List.any_nil, Bool.or_false, Bool.false_or, Bool.true_or, Bool.or_true, Bool.and_true, Bool.true_and, Bool.and_false, Bool.false_and, Bool.not_true, Bool.not_false, Nat.reduceBEq, Nat.reduceEqDiff, decide_true, decide_false, cond_true, cond_false, List.filter_nil, List.filter_cons, Nat.reduceAdd, Nat.reduceLeDiff, reduceCtorEq, List.length_nil, List.length_cons, Nat.mul_one, if_true, if_false, Bool.false_eq_true, eq_self, and_true, true_and, retL, resultsL, resAllL, resOfL, List.append_nil, List.nil_append, List.cons_append, true_or, or_true, false_or, or_false, false_and, and_false, not_true_eq_false, not_false_eq_true, ne_eq, unL, trim_nil, views_pures, LV.pures, LV.pure, freeze, Nat.reduceDiv, Int.reduceEq, Int.reduceLT, Int.reduceLE, Int.natCast_zero, LV.cells, allocL, List.getElem?_cons_zero, List.getElem?_cons_succ, storeL, spliceL, List.take_zero, List.take_succ_cons, List.drop_zero, List.drop_succ_cons, List.drop_nil, List.take_nil, Nat.le_refl, Nat.reduceMul, List.set_cons_zero, List.set_cons_succ, LV.scalar, List.all_cons, List.all_nil, Nat.lt_add_one, Nat.zero_lt_one, Nat.reduceLT, Nat.lt_irrefl, fillL, List.length_append, foldIntL, kind_beq, pures_int, solids_int, plains_int, unders_int, scalars_int, show ((k : Int) < (rs.length : Int)) by omega, he, h1, hn]
    · simp only [share_division_enemy.B0, beqT, beqF, exF_seq, exF_region, exF_block, exF_cond, exF_ret, exF_exit, exF_skip, runL, wantL, stepL, evL, evC, LEnv.at, putL, loadFine, loadL, cellsAt, Trk.putNew, Trk.up, Trk.touch, Trk.gives, Trk.calm, Trk.hit, opdsOf, Trk.fresh, LEnv.keep, LEnv.ofFrom, List.map_cons, List.map_nil, nbeq, nble, nblt, ofAV, ofAVs, lenL, bin_add, bin_sub, bin_mul, bin_eql, bin_neq, bin_lss, bin_leq, bin_gtr, bin_geq, natL_nat, natL_zero, natL_one, natL_two, Nat.zero_mul, List.any_cons, List.any_nil, Bool.or_false, Bool.false_or, Bool.true_or, Bool.or_true, Bool.and_true, Bool.true_and, Bool.and_false, Bool.false_and, Bool.not_true, Bool.not_false, Nat.reduceBEq, Nat.reduceEqDiff, decide_true, decide_false, cond_true, cond_false, List.filter_nil, List.filter_cons, Nat.reduceAdd, Nat.reduceLeDiff, reduceCtorEq, List.length_nil, List.length_cons, Nat.mul_one, if_true, if_false, Bool.false_eq_true, eq_self, and_true, true_and, retL, resultsL, resAllL, resOfL, List.append_nil, List.nil_append, List.cons_append, true_or, or_true, false_or, or_false, false_and, and_false, not_true_eq_false, not_false_eq_true, ne_eq, unL, trim_nil, views_pures, LV.pures, LV.pure, freeze, Nat.reduceDiv, Int.reduceEq, Int.reduceLT, Int.reduceLE, Int.natCast_zero, LV.cells, allocL, List.getElem?_cons_zero, List.getElem?_cons_succ, storeL, spliceL, List.take_zero, List.take_succ_cons, List.drop_zero, List.drop_succ_cons, List.drop_nil, List.take_nil, Nat.le_refl, Nat.reduceMul, List.set_cons_zero, List.set_cons_succ, LV.scalar, List.all_cons, List.all_nil, Nat.lt_add_one, Nat.zero_lt_one, Nat.reduceLT, Nat.lt_irrefl, fillL, List.length_append, foldIntL, kind_beq, pures_int, solids_int, plains_int, unders_int, scalars_int, show ((k : Int) < (rs.length : Int)) by omega, he, h1, wrap_succ (show k + 1 < 9223372036854775808 by omega), ih (k + 1) (by omega)]
theorem enemy_c (nl ex nl' ex' : Bool) (sz sz' : Nat) {rs : List Row} {o : List Int} (D : DOk rs o) (j : Nat) (m : LMem) : clF LP n_share_division_enemy [.agg [VL nl ex sz rs, IL nl' ex' sz' o], .int .i64 (j : Int)] m = some (.P, .int .i64 (enI (vals rs) o j), m) := by
  have h := enemy_loop nl ex nl' ex' sz sz' D j rs.length 0 (by omega)
  unfold enI
  rw [vals_length]
  simp only [Int.natCast_zero] at h
  by_cases hc : fstI (fun i => decide (0 < eW (vals rs) o i j)) rs.length 0 = -1
  · refine call_P lp_share_division_enemy rfl (by simp [LV.pures, LV.pure]) (m1 := [⟨[VL nl ex sz rs, IL nl' ex' sz' o], true⟩]) ?_ rfl m
    rw [if_pos hc] at h
    simp only [share_division_enemy, share_division_enemy.B, beqT, beqF, exF_seq, exF_region, exF_block, exF_cond, exF_ret, exF_exit, exF_skip, runL, wantL, stepL, evL, evC, LEnv.at, putL, loadFine, loadL, cellsAt, Trk.putNew, Trk.up, Trk.touch, Trk.gives, Trk.calm, Trk.hit, opdsOf, Trk.fresh, LEnv.keep, LEnv.ofFrom, List.map_cons, List.map_nil, nbeq, nble, nblt, ofAV, ofAVs, lenL, bin_add, bin_sub, bin_mul, bin_eql, bin_neq, bin_lss, bin_leq, bin_gtr, bin_geq, natL_nat, natL_zero, natL_one, natL_two, Nat.zero_mul, List.any_cons, List.any_nil, Bool.or_false, Bool.false_or, Bool.true_or, Bool.or_true, Bool.and_true, Bool.true_and, Bool.and_false, Bool.false_and, Bool.not_true, Bool.not_false, Nat.reduceBEq, Nat.reduceEqDiff, decide_true, decide_false, cond_true, cond_false, List.filter_nil, List.filter_cons, Nat.reduceAdd, Nat.reduceLeDiff, reduceCtorEq, List.length_nil, List.length_cons, Nat.mul_one, if_true, if_false, Bool.false_eq_true, eq_self, and_true, true_and, retL, resultsL, resAllL, resOfL, List.append_nil, List.nil_append, List.cons_append, true_or, or_true, false_or, or_false, false_and, and_false, not_true_eq_false, not_false_eq_true, ne_eq, unL, trim_nil, views_pures, LV.pures, LV.pure, freeze, Nat.reduceDiv, Int.reduceEq, Int.reduceLT, Int.reduceLE, Int.natCast_zero, LV.cells, allocL, List.getElem?_cons_zero, List.getElem?_cons_succ, storeL, spliceL, List.take_zero, List.take_succ_cons, List.drop_zero, List.drop_succ_cons, List.drop_nil, List.take_nil, Nat.le_refl, Nat.reduceMul, List.set_cons_zero, List.set_cons_succ, LV.scalar, List.all_cons, List.all_nil, Nat.lt_add_one, Nat.zero_lt_one, Nat.reduceLT, Nat.lt_irrefl, fillL, List.length_append, foldIntL, kind_beq, pures_int, solids_int, plains_int, unders_int, scalars_int, h, hc]
  · refine call_P lp_share_division_enemy rfl (by simp [LV.pures, LV.pure]) (m1 := [⟨[VL nl ex sz rs, IL nl' ex' sz' o], true⟩]) ?_ rfl m
    rw [if_neg hc] at h
    simp only [share_division_enemy, share_division_enemy.B, beqT, beqF, exF_seq, exF_region, exF_block, exF_cond, exF_ret, exF_exit, exF_skip, runL, wantL, stepL, evL, evC, LEnv.at, putL, loadFine, loadL, cellsAt, Trk.putNew, Trk.up, Trk.touch, Trk.gives, Trk.calm, Trk.hit, opdsOf, Trk.fresh, LEnv.keep, LEnv.ofFrom, List.map_cons, List.map_nil, nbeq, nble, nblt, ofAV, ofAVs, lenL, bin_add, bin_sub, bin_mul, bin_eql, bin_neq, bin_lss, bin_leq, bin_gtr, bin_geq, natL_nat, natL_zero, natL_one, natL_two, Nat.zero_mul, List.any_cons, List.any_nil, Bool.or_false, Bool.false_or, Bool.true_or, Bool.or_true, Bool.and_true, Bool.true_and, Bool.and_false, Bool.false_and, Bool.not_true, Bool.not_false, Nat.reduceBEq, Nat.reduceEqDiff, decide_true, decide_false, cond_true, cond_false, List.filter_nil, List.filter_cons, Nat.reduceAdd, Nat.reduceLeDiff, reduceCtorEq, List.length_nil, List.length_cons, Nat.mul_one, if_true, if_false, Bool.false_eq_true, eq_self, and_true, true_and, retL, resultsL, resAllL, resOfL, List.append_nil, List.nil_append, List.cons_append, true_or, or_true, false_or, or_false, false_and, and_false, not_true_eq_false, not_false_eq_true, ne_eq, unL, trim_nil, views_pures, LV.pures, LV.pure, freeze, Nat.reduceDiv, Int.reduceEq, Int.reduceLT, Int.reduceLE, Int.natCast_zero, LV.cells, allocL, List.getElem?_cons_zero, List.getElem?_cons_succ, storeL, spliceL, List.take_zero, List.take_succ_cons, List.drop_zero, List.drop_succ_cons, List.drop_nil, List.take_nil, Nat.le_refl, Nat.reduceMul, List.set_cons_zero, List.set_cons_succ, LV.scalar, List.all_cons, List.all_nil, Nat.lt_add_one, Nat.zero_lt_one, Nat.reduceLT, Nat.lt_irrefl, fillL, List.length_append, foldIntL, kind_beq, pures_int, solids_int, plains_int, unders_int, scalars_int, h, hc]
theorem calm_loop (nl ex nl' ex' : Bool) (sz sz' : Nat) {rs : List Row} {o : List Int} (D : DOk rs o) (n : Nat) : ∀ k, k + n = rs.length →
    exF LP share_division_calm.L0 [(1, .ptr 0 0 2), (6, .int .i64 (rs.length : Int)), (7, .int .i64 (k : Int))] [⟨[VL nl ex sz rs, IL nl' ex' sz' o], true⟩] =
      if fstI (fun j => decide (enI (vals rs) o j = -1)) n k = -1 then some (.exit 0, [], [⟨[VL nl ex sz rs, IL nl' ex' sz' o], true⟩]) else some (.ret, [(2, .int .i64 (fstI (fun j => decide (enI (vals rs) o j = -1)) n k))], [⟨[VL nl ex sz rs, IL nl' ex' sz' o], true⟩]) := by
  have h4 := D.le4
  induction n with
  | zero =>
    intro k hk
    rw [share_division_calm.L0_eq]
    simp only [share_division_calm.B0, beqT, beqF, exF_seq, exF_region, exF_block, exF_cond, exF_ret, exF_exit, exF_skip, runL, wantL, stepL, evL, evC, LEnv.at, putL, loadFine, loadL, cellsAt, Trk.putNew, Trk.up, Trk.touch, Trk.gives, Trk.calm, Trk.hit, opdsOf, Trk.fresh, LEnv.keep, LEnv.ofFrom, List.map_cons, List.map_nil, nbeq, nble, nblt, ofAV, ofAVs, lenL, bin_add, bin_sub, bin_mul, bin_eql, bin_neq, bin_lss, bin_leq, bin_gtr, bin_geq, natL_nat, natL_zero, natL_one, natL_two, Nat.zero_mul, List.any_cons, List.any_nil, Bool.or_false, Bool.false_or, Bool.true_or, Bool.or_true, Bool.and_true, Bool.true_and, Bool.and_false, Bool.false_and, Bool.not_true, Bool.not_false, Nat.reduceBEq, Nat.reduceEqDiff, decide_true, decide_false, cond_true, cond_false, List.filter_nil, List.filter_cons, Nat.reduceAdd, Nat.reduceLeDiff, reduceCtorEq, List.length_nil, List.length_cons, Nat.mul_one, if_true, if_false, Bool.false_eq_true, eq_self, and_true, true_and, retL, resultsL, resAllL, resOfL, List.append_nil, List.nil_append, List.cons_append, true_or, or_true, false_or, or_false, false_and, and_false, not_true_eq_false, not_false_eq_true, ne_eq, unL, trim_nil, views_pures, LV.pures, LV.pure, freeze, Nat.reduceDiv, Int.reduceEq, Int.reduceLT, Int.reduceLE, Int.natCast_zero, LV.cells, allocL, List.getElem?_cons_zero, List.getElem?_cons_succ, storeL, spliceL, List.take_zero, List.take_succ_cons, List.drop_zero, List.drop_succ_cons, List.drop_nil, List.take_nil, Nat.le_refl, Nat.reduceMul, List.set_cons_zero, List.set_cons_succ, LV.scalar, List.all_cons, List.all_nil, Nat.lt_add_one, Nat.zero_lt_one, Nat.reduceLT, Nat.lt_irrefl, fillL, List.length_append, foldIntL, kind_beq, pures_int, solids_int, plains_int, unders_int, scalars_int, show ¬ ((k : Int) < (rs.length : Int)) by omega, fstI]
  | succ n ih =>
    intro k hk
    have h2 : k < rs.length := by omega
    have he := fun m => enemy_c nl ex nl' ex' sz sz' D k m
    rw [share_division_calm.L0_eq, fstI]
    by_cases h1 : enI (vals rs) o k = -1
    · have hn : ¬ ((k : Int) = -1) := by omega
      simp only [share_division_calm.B0, beqT, beqF, exF_seq, exF_region, exF_block, exF_cond, exF_ret, exF_exit, exF_skip, runL, wantL, stepL, evL, evC, LEnv.at, putL, loadFine, loadL, cellsAt, Trk.putNew, Trk.up, Trk.touch, Trk.gives, Trk.calm, Trk.hit, opdsOf, Trk.fresh, LEnv.keep, LEnv.ofFrom, List.map_cons, List.map_nil, nbeq, nble, nblt, ofAV, ofAVs, lenL, bin_add, bin_sub, bin_mul, bin_eql, bin_neq, bin_lss, bin_leq, bin_gtr, bin_geq, natL_nat, natL_zero, natL_one, natL_two, Nat.zero_mul, List.any_cons, List.any_nil, Bool.or_false, Bool.false_or, Bool.true_or, Bool.or_true, Bool.and_true, Bool.true_and, Bool.and_false, Bool.false_and, Bool.not_true, Bool.not_false, Nat.reduceBEq, Nat.reduceEqDiff, decide_true, decide_false, cond_true, cond_false, List.filter_nil, List.filter_cons, Nat.reduceAdd, Nat.reduceLeDiff, reduceCtorEq, List.length_nil, List.length_cons, Nat.mul_one, if_true, if_false, Bool.false_eq_true, eq_self, and_true, true_and, retL, resultsL, resAllL, resOfL, List.append_nil, List.nil_append, List.cons_append, true_or, or_true, false_or, or_false, false_and, and_false, not_true_eq_false, not_false_eq_true, ne_eq, unL, trim_nil, views_pures, LV.pures, LV.pure, freeze, Nat.reduceDiv, Int.reduceEq, Int.reduceLT, Int.reduceLE, Int.natCast_zero, LV.cells, allocL, List.getElem?_cons_zero, List.getElem?_cons_succ, storeL, spliceL, List.take_zero, List.take_succ_cons, List.drop_zero, List.drop_succ_cons, List.drop_nil, List.take_nil, Nat.le_refl, Nat.reduceMul, List.set_cons_zero, List.set_cons_succ, LV.scalar, List.all_cons, List.all_nil, Nat.lt_add_one, Nat.zero_lt_one, Nat.reduceLT, Nat.lt_irrefl, fillL, List.length_append, foldIntL, kind_beq, pures_int, solids_int, plains_int, unders_int, scalars_int, show ((k : Int) < (rs.length : Int)) by omega, he, h1, hn]
    · simp only [share_division_calm.B0, beqT, beqF, exF_seq, exF_region, exF_block, exF_cond, exF_ret, exF_exit, exF_skip, runL, wantL, stepL, evL, evC, LEnv.at, putL, loadFine, loadL, cellsAt, Trk.putNew, Trk.up, Trk.touch, Trk.gives, Trk.calm, Trk.hit, opdsOf, Trk.fresh, LEnv.keep, LEnv.ofFrom, List.map_cons, List.map_nil, nbeq, nble, nblt, ofAV, ofAVs, lenL, bin_add, bin_sub, bin_mul, bin_eql, bin_neq, bin_lss, bin_leq, bin_gtr, bin_geq, natL_nat, natL_zero, natL_one, natL_two, Nat.zero_mul, List.any_cons, List.any_nil, Bool.or_false, Bool.false_or, Bool.true_or, Bool.or_true, Bool.and_true, Bool.true_and, Bool.and_false, Bool.false_and, Bool.not_true, Bool.not_false, Nat.reduceBEq, Nat.reduceEqDiff, decide_true, decide_false, cond_true, cond_false, List.filter_nil, List.filter_cons, Nat.reduceAdd, Nat.reduceLeDiff, reduceCtorEq, List.length_nil, List.length_cons, Nat.mul_one, if_true, if_false, Bool.false_eq_true, eq_self, and_true, true_and, retL, resultsL, resAllL, resOfL, List.append_nil, List.nil_append, List.cons_append, true_or, or_true, false_or, or_false, false_and, and_false, not_true_eq_false, not_false_eq_true, ne_eq, unL, trim_nil, views_pures, LV.pures, LV.pure, freeze, Nat.reduceDiv, Int.reduceEq, Int.reduceLT, Int.reduceLE, Int.natCast_zero, LV.cells, allocL, List.getElem?_cons_zero, List.getElem?_cons_succ, storeL, spliceL, List.take_zero, List.take_succ_cons, List.drop_zero, List.drop_succ_cons, List.drop_nil, List.take_nil, Nat.le_refl, Nat.reduceMul, List.set_cons_zero, List.set_cons_succ, LV.scalar, List.all_cons, List.all_nil, Nat.lt_add_one, Nat.zero_lt_one, Nat.reduceLT, Nat.lt_irrefl, fillL, List.length_append, foldIntL, kind_beq, pures_int, solids_int, plains_int, unders_int, scalars_int, show ((k : Int) < (rs.length : Int)) by omega, he, h1, wrap_succ (show k + 1 < 9223372036854775808 by omega), ih (k + 1) (by omega)]
theorem calm_c (nl ex nl' ex' : Bool) (sz sz' : Nat) {rs : List Row} {o : List Int} (D : DOk rs o) (m : LMem) : clF LP n_share_division_calm [.agg [VL nl ex sz rs, IL nl' ex' sz' o]] m = some (.P, .int .i64 (calmI (vals rs) o), m) := by
  have h := calm_loop nl ex nl' ex' sz sz' D rs.length 0 (by omega)
  unfold calmI
  rw [vals_length]
  simp only [Int.natCast_zero] at h
  by_cases hc : fstI (fun j => decide (enI (vals rs) o j = -1)) rs.length 0 = -1
  · refine call_P lp_share_division_calm rfl (by simp [LV.pures, LV.pure]) (m1 := [⟨[VL nl ex sz rs, IL nl' ex' sz' o], true⟩]) ?_ rfl m
    rw [if_pos hc] at h
    simp only [share_division_calm, share_division_calm.B, beqT, beqF, exF_seq, exF_region, exF_block, exF_cond, exF_ret, exF_exit, exF_skip, runL, wantL, stepL, evL, evC, LEnv.at, putL, loadFine, loadL, cellsAt, Trk.putNew, Trk.up, Trk.touch, Trk.gives, Trk.calm, Trk.hit, opdsOf, Trk.fresh, LEnv.keep, LEnv.ofFrom, List.map_cons, List.map_nil, nbeq, nble, nblt, ofAV, ofAVs, lenL, bin_add, bin_sub, bin_mul, bin_eql, bin_neq, bin_lss, bin_leq, bin_gtr, bin_geq, natL_nat, natL_zero, natL_one, natL_two, Nat.zero_mul, List.any_cons, List.any_nil, Bool.or_false, Bool.false_or, Bool.true_or, Bool.or_true, Bool.and_true, Bool.true_and, Bool.and_false, Bool.false_and, Bool.not_true, Bool.not_false, Nat.reduceBEq, Nat.reduceEqDiff, decide_true, decide_false, cond_true, cond_false, List.filter_nil, List.filter_cons, Nat.reduceAdd, Nat.reduceLeDiff, reduceCtorEq, List.length_nil, List.length_cons, Nat.mul_one, if_true, if_false, Bool.false_eq_true, eq_self, and_true, true_and, retL, resultsL, resAllL, resOfL, List.append_nil, List.nil_append, List.cons_append, true_or, or_true, false_or, or_false, false_and, and_false, not_true_eq_false, not_false_eq_true, ne_eq, unL, trim_nil, views_pures, LV.pures, LV.pure, freeze, Nat.reduceDiv, Int.reduceEq, Int.reduceLT, Int.reduceLE, Int.natCast_zero, LV.cells, allocL, List.getElem?_cons_zero, List.getElem?_cons_succ, storeL, spliceL, List.take_zero, List.take_succ_cons, List.drop_zero, List.drop_succ_cons, List.drop_nil, List.take_nil, Nat.le_refl, Nat.reduceMul, List.set_cons_zero, List.set_cons_succ, LV.scalar, List.all_cons, List.all_nil, Nat.lt_add_one, Nat.zero_lt_one, Nat.reduceLT, Nat.lt_irrefl, fillL, List.length_append, foldIntL, kind_beq, pures_int, solids_int, plains_int, unders_int, scalars_int, h, hc]
  · refine call_P lp_share_division_calm rfl (by simp [LV.pures, LV.pure]) (m1 := [⟨[VL nl ex sz rs, IL nl' ex' sz' o], true⟩]) ?_ rfl m
    rw [if_neg hc] at h
    simp only [share_division_calm, share_division_calm.B, beqT, beqF, exF_seq, exF_region, exF_block, exF_cond, exF_ret, exF_exit, exF_skip, runL, wantL, stepL, evL, evC, LEnv.at, putL, loadFine, loadL, cellsAt, Trk.putNew, Trk.up, Trk.touch, Trk.gives, Trk.calm, Trk.hit, opdsOf, Trk.fresh, LEnv.keep, LEnv.ofFrom, List.map_cons, List.map_nil, nbeq, nble, nblt, ofAV, ofAVs, lenL, bin_add, bin_sub, bin_mul, bin_eql, bin_neq, bin_lss, bin_leq, bin_gtr, bin_geq, natL_nat, natL_zero, natL_one, natL_two, Nat.zero_mul, List.any_cons, List.any_nil, Bool.or_false, Bool.false_or, Bool.true_or, Bool.or_true, Bool.and_true, Bool.true_and, Bool.and_false, Bool.false_and, Bool.not_true, Bool.not_false, Nat.reduceBEq, Nat.reduceEqDiff, decide_true, decide_false, cond_true, cond_false, List.filter_nil, List.filter_cons, Nat.reduceAdd, Nat.reduceLeDiff, reduceCtorEq, List.length_nil, List.length_cons, Nat.mul_one, if_true, if_false, Bool.false_eq_true, eq_self, and_true, true_and, retL, resultsL, resAllL, resOfL, List.append_nil, List.nil_append, List.cons_append, true_or, or_true, false_or, or_false, false_and, and_false, not_true_eq_false, not_false_eq_true, ne_eq, unL, trim_nil, views_pures, LV.pures, LV.pure, freeze, Nat.reduceDiv, Int.reduceEq, Int.reduceLT, Int.reduceLE, Int.natCast_zero, LV.cells, allocL, List.getElem?_cons_zero, List.getElem?_cons_succ, storeL, spliceL, List.take_zero, List.take_succ_cons, List.drop_zero, List.drop_succ_cons, List.drop_nil, List.take_nil, Nat.le_refl, Nat.reduceMul, List.set_cons_zero, List.set_cons_succ, LV.scalar, List.all_cons, List.all_nil, Nat.lt_add_one, Nat.zero_lt_one, Nat.reduceLT, Nat.lt_irrefl, fillL, List.length_append, foldIntL, kind_beq, pures_int, solids_int, plains_int, unders_int, scalars_int, h, hc]
end Go.Am.Share

/-
  What functions of chapter 07 compute, 18: the program turns a ring.
-/
set_option linter.unusedVariables false
set_option linter.unusedSimpArgs false
set_option maxRecDepth 10000
namespace Go.Am
theorem views_two (k : Nat) (m : LMem) (a b a' : LV) (ids : List Nat) (h : ∀ k, view (k + 3) m a = some (a', ids)) (hb : b.pure = true) (hn : LV.pures [a, b] = false) : viewL (k + 8) m [a, b] = some ([a', b], ids) := by
  rw [viewL.eq_def]
  simp only [hn, cond_false]
  rw [viewC.eq_def]
  simp only [h]
  rw [viewC.eq_def]
  simp only [view_pure _ _ b hb]
  rw [viewC.eq_def]
  simp
theorem views_one (k : Nat) (m : LMem) (a a' : LV) (ids : List Nat) (h : ∀ k, view (k + 3) m a = some (a', ids)) (hn : LV.pures [a] = false) : viewL (k + 8) m [a] = some ([a'], ids) := by
  rw [viewL.eq_def]
  simp only [hn, cond_false]
  rw [viewC.eq_def]
  simp only [h]
  rw [viewC.eq_def]
  simp
theorem view_sl (k : Nat) (m : LMem) (i p n L g : Nat) (cs : List Int) (b : Bool) (h : m[i]? = some ⟨cs.map (LV.int .i64), b⟩) (hL : cs.length = L) (hp : p + n ≤ L) (c : Nat) (hc : n ≤ c) : view (k + 3) m (.sl i p n c g 1 L) = some (IL false (Nat.beq g 0 && Nat.beq c n) 1 ((cs.drop p).take n), [i]) := by
  have h2 : ((cs.map (LV.int .i64)).drop p).take (n * 1) = ((cs.drop p).take n).map (LV.int .i64) := by simp [List.map_take, List.map_drop]
  simp only [view, h, h2, viewL_pures _ _ _ (pures_int .i64 _)]
  have : ((cs.drop p).take n).length = n := by simp; omega
  simp [nbeq, nble, hL, hp, hc, this]
theorem view_gv (k : Nat) (m : LMem) (i : Nat) (l : List Int) (h : l ≠ [] → m[i]? = some ⟨l.map (LV.int .i64), true⟩) : view (k + 3) m (GV i l) = some (RL l, if l = [] then [] else [i]) := by
  by_cases hl : l = []
  · subst hl; rfl
  · have h1 := h hl
    simp only [GV, if_neg hl, view, h1]
    have h2 : ((l.map (LV.int .i64)).drop 0).take (l.length * 1) = l.map (LV.int .i64) := by rw [List.drop_zero, List.take_of_length_le (by simp)]
    simp only [h2, viewL_pures _ _ _ (pures_int .i64 l)]
    have hd : decide (l = []) = false := by simpa using hl
    have hpos : ¬ l.length = 0 := by simpa using hl
    simp [hd, nbeq, nble]
theorem views_gv (m : LMem) (i : Nat) (l : List Int) (x : Int) (h : l ≠ [] → m[i]? = some ⟨l.map (LV.int .i64), true⟩) : views m [GV i l, .int .i64 x] = some ([RL l, .int .i64 x], if l = [] then [] else [i]) := by
  by_cases hl : l = []
  · subst hl; rfl
  · exact views_two 32 m _ _ _ _ (fun k => view_gv k m i l h) rfl (by simp [LV.pures, LV.pure, GV, hl])
theorem view_d (k : Nat) (m : LMem) (V : LV) (hV : V.pure = true) (i L g : Nat) (o : List Int) (b : Bool) (h : m[i]? = some ⟨o.map (LV.int .i64), b⟩) (hL : o.length = L) : view (k + 13) m (.agg [V, .sl i 0 L L g 1 L]) = some (.agg [V, IL false (Nat.beq g 0) 1 o], [i]) := by
  have h1 := fun k => view_sl k m i 0 L L g o b h hL (by omega) L (by omega)
  have hn : LV.pures [V, .sl i 0 L L g 1 L] = false := by simp [LV.pures, LV.pure]
  rw [view.eq_def]
  simp only
  rw [viewL.eq_def]
  simp only [hn, cond_false]
  rw [viewC.eq_def]
  simp only [view_pure _ _ V hV]
  rw [viewC.eq_def]
  simp only [h1]
  rw [viewC.eq_def]
  subst hL
  simp [nbeq]
end Go.Am
namespace Go.Am.Share
theorem enemy_m (nl ex : Bool) (sz : Nat) {rs : List Row} {o : List Int} (D : DOk rs o) {m : LMem} {i L : Nat} {b : Bool} (hb : m[i]? = some ⟨o.map (LV.int .i64), b⟩) (hL : o.length = L) {j : Int} (hj : 0 ≤ j) : clF LP n_share_division_enemy [.agg [VL nl ex sz rs, .sl i 0 L L 0 1 L], .int .i64 j] m = some (.P, .int .i64 (enI (vals rs) o j.toNat), m) := by
  obtain ⟨n, rfl⟩ := Int.eq_ofNat_of_zero_le hj
  refine call_view lp_share_division_enemy rfl (vs := [.agg [VL nl ex sz rs, IL false true 1 o], .int .i64 (n : Int)]) (ids := [i]) ?_ (by simp [LV.pures, LV.pure]) (enemy_c nl ex false true sz 1 D n []) rfl
  show viewL (26 + 13 + 1) m _ = _
  rw [viewL.eq_def]
  have hn : LV.pures [.agg [VL nl ex sz rs, .sl i 0 L L 0 1 L], .int .i64 (n : Int)] = false := by simp [LV.pures, LV.pure]
  simp only [hn, cond_false]
  rw [viewC.eq_def]
  have := view_d 25 m (VL nl ex sz rs) rfl i L 0 o b hb hL
  simp only [this]
  rw [viewC.eq_def]
  simp only [view_pure _ _ (.int .i64 (n : Int)) rfl]
  rw [viewC.eq_def]
  rfl
theorem calm_m (nl ex : Bool) (sz : Nat) {rs : List Row} {o : List Int} (D : DOk rs o) {m : LMem} {i L : Nat} {b : Bool} (hb : m[i]? = some ⟨o.map (LV.int .i64), b⟩) (hL : o.length = L) : clF LP n_share_division_calm [.agg [VL nl ex sz rs, .sl i 0 L L 0 1 L]] m = some (.P, .int .i64 (calmI (vals rs) o), m) := by
  refine call_view lp_share_division_calm rfl (vs := [.agg [VL nl ex sz rs, IL false true 1 o]]) (ids := [i]) ?_ (by simp [LV.pures, LV.pure]) (calm_c nl ex false true sz 1 D []) rfl
  show viewL (26 + 13 + 1) m _ = _
  rw [viewL.eq_def]
  have hn : LV.pures [.agg [VL nl ex sz rs, .sl i 0 L L 0 1 L]] = false := by simp [LV.pures, LV.pure]
  simp only [hn, cond_false]
  rw [viewC.eq_def]
  have := view_d 25 m (VL nl ex sz rs) rfl i L 0 o b hb hL
  simp only [this]
  rw [viewC.eq_def]
  rfl
theorem contains_m {m : LMem} {i : Nat} {l : List Int} (h : l ≠ [] → m[i]? = some ⟨l.map (LV.int .i64), true⟩) (hl : l.length < 1000000) (x : Int) : clF LP n_slices_Contains_int_int [GV i l, .int .i64 x] m = some (.P, .bool (decide (x ∈ l)), m) :=
  call_view lp_slices_Contains_int_int rfl (views_gv m i l x h) (by simp [LV.pures, LV.pure]) (contains_c _ _ _ l x hl []) rfl
theorem index_m {m : LMem} {i p n L g : Nat} {cs : List Int} {b : Bool} (h : m[i]? = some ⟨cs.map (LV.int .i64), b⟩) (hL : cs.length = L) (hp : p + n ≤ L) (hc : cs.length < 1000000) (x : Int) : clF LP n_slices_Index_int_int [.sl i p n n g 1 L, .int .i64 x] m = some (.P, .int .i64 (idxI x ((cs.drop p).take n) 0), m) := by
  have hlen : ((cs.drop p).take n).length = n := by simp; omega
  refine call_view lp_slices_Index_int_int rfl (vs := [IL false (Nat.beq g 0 && Nat.beq n n) 1 ((cs.drop p).take n), .int .i64 x]) (ids := [i]) ?_ (by simp [LV.pures, LV.pure]) (index_c _ _ _ _ x (by omega) []) rfl
  exact views_two 32 m _ _ _ _ (fun k => view_sl k m i p n L g cs b h hL hp n (by omega)) rfl (by simp [LV.pures, LV.pure])
theorem idxI_eq (x : Int) : ∀ (l : List Int) (k : Nat), idxI x l k = if x ∈ l then ((k + l.idxOf x : Nat) : Int) else -1
  | [], k => by simp [idxI]
  | a :: r, k => by
    rw [idxI, List.idxOf_cons]
    by_cases h : x = a
    · simp [h]
    · have h' : (a == x) = false := by simp; exact fun c => h c.symm
      rw [if_neg h, idxI_eq x r (k + 1), h', cond_false]
      by_cases c : x ∈ r
      · rw [if_pos c, if_pos (by simp [c])]; congr 1; omega
      · rw [if_neg c, if_neg (by simp [c, h])]
theorem ringOf_drop (w : Int) : ∀ (l : List Int), w ∈ l → ringOf w l = l.drop (l.idxOf w)
  | [], h => by cases h
  | a :: r, h => by
    rw [ringOf, List.idxOf_cons]
    by_cases c : a = w
    · simp [c]
    · have h' : (a == w) = false := by simpa using c
      rw [if_neg c, h', cond_false, List.drop_succ_cons]
      exact ringOf_drop w r (by rcases List.mem_cons.1 h with d | d; exact absurd d.symm c; exact d)

/-! ### The program's walk -/
def RB (V : LV) (o l : List Int) : LMem := [⟨[V, SLo 1 o.length], true⟩, ⟨o.map (LV.int .i64), true⟩, ⟨[V, SLo 1 o.length], true⟩, ⟨[V, SLo 1 o.length], true⟩] ++ GM l
theorem RB_1 (V : LV) (o l : List Int) : (RB V o l)[1]? = some ⟨o.map (LV.int .i64), true⟩ := rfl
theorem RB_3 (V : LV) (o l : List Int) : (RB V o l)[3]? = some ⟨[V, SLo 1 o.length], true⟩ := rfl
theorem RB_4 (V : LV) (o l : List Int) (h : l ≠ []) : (RB V o l)[4]? = some ⟨l.map (LV.int .i64), true⟩ := by simp [RB, GM, h]
theorem RB_append (V : LV) (o l : List Int) (x : Int) (h : l.length < 1000000) : appendL (RB V o l) 1 8 (GV 4 l) (.lst false true 1 1 [.int .i64 x]) = some (GV 4 (l ++ [x]), RB V o (l ++ [x])) :=
  append_grow [⟨[V, SLo 1 o.length], true⟩, ⟨o.map (LV.int .i64), true⟩, ⟨[V, SLo 1 o.length], true⟩, ⟨[V, SLo 1 o.length], true⟩] l x true h
theorem en_rng {V : List (List Int)} {o : List Int} (h : calmI V o = -1) : ∀ x, 0 ≤ x → x < (V.length : Int) → 0 ≤ enI V o x.toNat ∧ enI V o x.toNat < (V.length : Int) := fun x h0 h1 => by
  have := enI_ok h h0 h1
  exact ⟨this.1, this.2.1⟩
theorem walk_loop (nl ex : Bool) (sz : Nat) {rs : List Row} {o : List Int} (D : DOk rs o) (hc : calmI (vals rs) o = -1) (n : Nat) : ∀ (l : List Int) (w : Int), WOk (fun x => enI (vals rs) o x.toNat) rs.length l w → rs.length + 1 ≤ l.length + n →
    exF LP share_division_turn.L0 [(1, .ptr 3 0 2), (2, GV 4 l), (3, .int .i64 w)] (RB (VL nl ex sz rs) o l) =
      some (.exit 0, [(1, .ptr 3 0 2), (2, GV 4 (wlk (fun x => enI (vals rs) o x.toNat) n l w).1)], RB (VL nl ex sz rs) o (wlk (fun x => enI (vals rs) o x.toNat) n l w).1) := by
  have h4 := D.le4
  have hrng := en_rng hc
  rw [vals_length] at hrng
  induction n with
  | zero =>
    intro l w H hn
    have := nodup_le rs.length l H.nd H.rng
    omega
  | succ n ih =>
    intro l w H hn
    have hlen := nodup_le rs.length l H.nd H.rng
    have hcm := contains_m (m := RB (VL nl ex sz rs) o l) (i := 4) (RB_4 _ o l) (by omega) w
    rw [share_division_turn.L0_eq, wlk]
    by_cases hw : w ∈ l
    · simp only [share_division_turn.B0, beqT, beqF, exF_seq, exF_region, exF_block, exF_cond, exF_ret, exF_exit, exF_skip, runL, wantL, stepL, evL, evC, LEnv.at, putL, loadFine, loadL, cellsAt, Trk.putNew, Trk.up, Trk.touch, Trk.gives, Trk.calm, Trk.hit, opdsOf, Trk.fresh, LEnv.keep, LEnv.ofFrom, List.map_cons, List.map_nil, nbeq, nble, nblt, ofAV, ofAVs, lenL, bin_add, bin_sub, bin_mul, bin_eql, bin_neq, bin_lss, bin_leq, bin_gtr, bin_geq, natL_nat, natL_zero, natL_one, natL_two, Nat.zero_mul, List.any_cons, List.any_nil, Bool.or_false, Bool.false_or, Bool.true_or, Bool.or_true, Bool.and_true, Bool.true_and, Bool.and_false, Bool.false_and, Bool.not_true, Bool.not_false, Nat.reduceBEq, Nat.reduceEqDiff, decide_true, decide_false, cond_true, cond_false, List.filter_nil, List.filter_cons, Nat.reduceAdd, Nat.reduceLeDiff, reduceCtorEq, List.length_nil, List.length_cons, Nat.mul_one, if_true, if_false, Bool.false_eq_true, eq_self, and_true, true_and, retL, resultsL, resAllL, resOfL, List.append_nil, List.nil_append, List.cons_append, true_or, or_true, false_or, or_false, false_and, and_false, not_true_eq_false, not_false_eq_true, ne_eq, unL, trim_nil, views_pures, LV.pures, LV.pure, freeze, Nat.reduceDiv, Int.reduceEq, Int.reduceLT, Int.reduceLE, Int.natCast_zero, LV.cells, allocL, List.getElem?_cons_zero, List.getElem?_cons_succ, storeL, spliceL, List.take_zero, List.take_succ_cons, List.drop_zero, List.drop_succ_cons, List.drop_nil, List.take_nil, Nat.le_refl, Nat.reduceMul, List.set_cons_zero, List.set_cons_succ, LV.scalar, List.all_cons, List.all_nil, Nat.lt_add_one, Nat.zero_lt_one, Nat.reduceLT, Nat.lt_irrefl, fillL, foldIntL, kind_beq, pures_int, solids_int, plains_int, unders_int, scalars_int, hcm, hw]
    · have he := enemy_m nl ex sz D (m := RB (VL nl ex sz rs) o (l ++ [w])) (RB_1 _ o _) rfl H.w0.1
      have ih := ih (l ++ [w]) _ (H.step hrng hw) (by simp; omega)
      have ha := RB_append (VL nl ex sz rs) o l w (by omega)
      simp only [share_division_turn.B0, beqT, beqF, exF_seq, exF_region, exF_block, exF_cond, exF_ret, exF_exit, exF_skip, runL, wantL, stepL, evL, evC, LEnv.at, putL, loadFine, loadL, cellsAt, Trk.putNew, Trk.up, Trk.touch, Trk.gives, Trk.calm, Trk.hit, opdsOf, Trk.fresh, LEnv.keep, LEnv.ofFrom, List.map_cons, List.map_nil, nbeq, nble, nblt, ofAV, ofAVs, lenL, bin_add, bin_sub, bin_mul, bin_eql, bin_neq, bin_lss, bin_leq, bin_gtr, bin_geq, natL_nat, natL_zero, natL_one, natL_two, Nat.zero_mul, List.any_cons, List.any_nil, Bool.or_false, Bool.false_or, Bool.true_or, Bool.or_true, Bool.and_true, Bool.true_and, Bool.and_false, Bool.false_and, Bool.not_true, Bool.not_false, Nat.reduceBEq, Nat.reduceEqDiff, decide_true, decide_false, cond_true, cond_false, List.filter_nil, List.filter_cons, Nat.reduceAdd, Nat.reduceLeDiff, reduceCtorEq, List.length_nil, List.length_cons, Nat.mul_one, if_true, if_false, Bool.false_eq_true, eq_self, and_true, true_and, retL, resultsL, resAllL, resOfL, List.append_nil, List.nil_append, List.cons_append, true_or, or_true, false_or, or_false, false_and, and_false, not_true_eq_false, not_false_eq_true, ne_eq, unL, trim_nil, views_pures, LV.pures, LV.pure, freeze, Nat.reduceDiv, Int.reduceEq, Int.reduceLT, Int.reduceLE, Int.natCast_zero, LV.cells, allocL, List.getElem?_cons_zero, List.getElem?_cons_succ, storeL, spliceL, List.take_zero, List.take_succ_cons, List.drop_zero, List.drop_succ_cons, List.drop_nil, List.take_nil, Nat.le_refl, Nat.reduceMul, List.set_cons_zero, List.set_cons_succ, LV.scalar, List.all_cons, List.all_nil, Nat.lt_add_one, Nat.zero_lt_one, Nat.reduceLT, Nat.lt_irrefl, fillL, foldIntL, kind_beq, pures_int, solids_int, plains_int, unders_int, scalars_int, hcm, hw, ha, RB_3, he, ih]
end Go.Am.Share

/-
  What functions of chapter 07 compute, 24: all divisions are gone through.
-/
set_option linter.unusedVariables false
set_option linter.unusedSimpArgs false
set_option maxRecDepth 10000
namespace Go.Am.Share
def runV {σ : Type} (vis : σ → List Int → σ × Bool) : σ → List (List Int) → σ × Bool
  | s, [] => (s, true)
  | s, x :: xs => if (vis s x).2 then runV vis (vis s x).1 xs else ((vis s x).1, false)
/-- A visitor: what its call does to a memory that is told by a state and the owners. -/
structure Vis (σ : Type) (V : LV) (N L : Nat) where
  mem : σ → List Int → LMem
  vis : σ → List Int → σ × Bool
  good : σ → Prop
  f : Nat
  first : List LV
  cap : List LV
  d : Nat
  b : Nat
  iv : Nat
  ip : Nat
  hd : ∀ s o, o.length = L → (mem s o)[d]? = some ⟨[V, SLo b L], true⟩
  own : σ → Bool
  hown : ∀ s, 0 < L → own s = true
  hb : ∀ s o, o.length = L → (mem s o)[b]? = some ⟨o.map (LV.int .i64), own s⟩
  hv : ∀ s o, o.length = L → (mem s o)[iv]? = some ⟨[.func f first cap], true⟩
  hp : ∀ s o, o.length = L → (mem s o)[ip]? = some ⟨[.func n_share_each_1 [] [.ptr d 0 2, .ptr iv 0 1, .ptr ip 0 1]], true⟩
  hset : ∀ s o k x, o.length = L → k < L → (mem s o).set b ⟨(o.set k x).map (LV.int .i64), true⟩ = mem s (o.set k x)
  htrim : ∀ s l o o' c, good s → o.length = L → o'.length = L → trim (mem s o).length [.bool c] (mem (runV vis s l).1 o') = mem (runV vis s l).1 o'
  hvis : ∀ s o, good s → o.length = L → clF LP f (first ++ ([.agg [V, SLo b L]] ++ cap)) (mem s o) = some (.W, .bool (vis s o).2, mem (vis s o).1 o)
  hgood : ∀ s o, good s → o.length = L → (vis s o).2 = true → good (vis s o).1
end Go.Am.Share


