import Derived.Test.YtcckhkcchpfdoaaShareC3
/-
  What functions of chapter 07 compute, 5: divisions are opened; envy by more than one thing.
-/
set_option linter.unusedVariables false
set_option linter.unusedSimpArgs false
set_option maxRecDepth 10000
namespace Go.Am.Share

abbrev LNIL : LV := .lst true true 0 0 []
theorem vals0 (rs : List Row) (h : 0 < rs.length) : (vals rs).getD 0 [] = rs[0].l := by simp [vals, List.getD_eq_getElem?_getD, List.getElem?_eq_getElem h]

theorem opened_c (nl ex nl' ex' : Bool) (sz sz' : Nat) (rs : List Row) (o : List Int) (hl : rs.length < 1000000) (hr : ∀ r ∈ rs, r.l.length < 1000000) (ho : o.length < 1000000) (hsz : o = [] ∨ sz' = 1) (hnl : nl' = true → o = []) (m : LMem) :
    (divE (vals rs) o ≠ 0 → clF LP n_share_opened [VL nl ex sz rs, IL nl' ex' sz' o] m = some (.P, .tup [.agg [LNIL, LNIL], .int .i64 (divE (vals rs) o)], m)) ∧
    (divE (vals rs) o = 0 → ∃ nl2 ex2 sz2, clF LP n_share_opened [VL nl ex sz rs, IL nl' ex' sz' o] m = some (.P, .tup [.agg [VL nl ex sz rs, IL nl2 ex2 sz2 o], .int .i64 0], m) ∧ (o = [] ∨ sz2 = 1) ∧ (nl2 = true → o = [])) := by
  have hc := fun m => check_c nl ex sz rs hl hr m
  unfold divE
  rw [vals_length]
  by_cases h1 : chkV (vals rs) = 0
  · obtain ⟨k1, k2, k3, k4⟩ := chkV_ok h1
    rw [vals_length] at k1
    rw [vals0 rs k1]
    rw [if_neg (by simpa using h1)]
    have hnew : ¬ ((chkV (vals rs) : Int) ≠ 0) := by simpa using h1
    by_cases h2 : o.length = rs[0].l.length
    · rw [if_neg (by simpa using h2)]
      have h2' : ((o.length : Int) = rs[0].l.length) := by omega
      have hs := some_c n_share_opened_1 [] [.elt [VL nl ex sz rs] 0] ⟨rfl, by simp [LV.pures, LV.pure]⟩ (fun x => !inB 0 ((rs.length : Int) - 1) x) nl' ex' sz' o ho (fun x m => opened1_c nl ex sz rs ⟨k1, hl⟩ x m) []
      cases ha : o.any fun x => !inB 0 ((rs.length : Int) - 1) x
      · rw [ha] at hs
        have hv := call_view lp_share_some_int rfl (args := [.func n_share_opened_1 [] [.ptr 0 0 1], IL nl' ex' sz' o]) (m := [⟨[VL nl ex sz rs], true⟩, ⟨[LNIL, LNIL], true⟩]) (ids := [0]) (by simp [views, viewL, viewC, view, LV.pures, LV.pure, nbeq]) (by simp [LV.pures, LV.pure]) hs rfl
        simp only [Bool.false_eq_true, if_false, ne_eq, not_true_eq_false, false_implies, true_and, forall_const]
        have hcl := clone_c nl' ex' sz' o ho [⟨[VL nl ex sz rs], true⟩, ⟨[LNIL, LNIL], true⟩] hsz hnl
        by_cases hn : o = []
        · subst hn
          refine ⟨nl', true, 0, ?_, .inl rfl, fun _ => rfl⟩
          refine call_Pv lp_share_opened rfl (by simp [LV.pures, LV.pure]) (v := .tup [.agg [VL nl ex sz rs, .lst nl' true 0 0 []], .int .i64 0]) (m1 := [⟨[VL nl ex sz rs], true⟩, ⟨[VL nl ex sz rs, .lst nl' true 0 0 []], true⟩]) ?_ (view_pure 38 _ _ (by simp [LV.pures, LV.pure])) m
          simp only [if_true] at hcl
          have h3' : (((0 : Nat) : Int) = rs[0].l.length) := h2'
          simp only [share_opened, share_opened.B, beqT, beqF, exF_seq, exF_region, exF_block, exF_cond, exF_ret, exF_exit, exF_skip, runL, wantL, stepL, evL, LEnv.at, putL, loadFine, loadL, cellsAt, Trk.putNew, Trk.up, Trk.touch, Trk.gives, Trk.calm, Trk.hit, opdsOf, Trk.fresh, LEnv.keep, LEnv.ofFrom, List.map_cons, List.map_nil, nbeq, nble, nblt, ofAV, ofAVs, lenL, bin_add, bin_sub, bin_mul, bin_eql, bin_neq, bin_lss, bin_leq, bin_gtr, bin_geq, natL_nat, natL_zero, natL_one, natL_two, Nat.zero_mul, List.any_cons, List.any_nil, Bool.or_false, Bool.false_or, Bool.true_or, Bool.or_true, Bool.and_true, Bool.true_and, Bool.and_false, Bool.false_and, Bool.not_true, Bool.not_false, Nat.reduceBEq, Nat.reduceEqDiff, decide_true, decide_false, cond_true, cond_false, List.filter_nil, List.filter_cons, Nat.reduceAdd, Nat.reduceLeDiff, reduceCtorEq, List.length_nil, List.length_cons, Nat.mul_one, if_true, if_false, Bool.false_eq_true, eq_self, and_true, true_and, retL, resultsL, resAllL, resOfL, List.append_nil, List.nil_append, List.cons_append, true_or, or_true, false_or, or_false, false_and, and_false, not_true_eq_false, not_false_eq_true, ne_eq, unL, trim_nil, Int.reduceEq, Int.reduceLT, Int.reduceLE, Int.natCast_zero, LV.cells, allocL, List.getElem?_cons_zero, List.getElem?_cons_succ, storeL, spliceL, List.take_zero, List.take_succ_cons, List.drop_zero, List.drop_succ_cons, List.drop_nil, List.take_nil, Nat.le_refl, Nat.reduceMul, List.set_cons_zero, List.set_cons_succ, LV.scalar, List.all_cons, List.all_nil, Nat.lt_add_one, Nat.zero_lt_one, Nat.lt_irrefl, fillL, List.length_append, foldIntL, kind_beq, pures_int, solids_int, plains_int, unders_int, scalars_int, hc, h1, h3', k1, row_at _ _ k1, hv, hcl]
        · refine ⟨false, false, 1, ?_, .inr rfl, fun h => by cases h⟩
          have hn0 : ¬ o.length = 0 := by simpa using hn
          refine call_Pv lp_share_opened rfl (by simp [LV.pures, LV.pure]) (v := .tup [.agg [VL nl ex sz rs, .sl 2 0 o.length o.length 1 1 o.length], .int .i64 0]) (ids := [2])
            (m1 := [⟨[VL nl ex sz rs], true⟩, ⟨[VL nl ex sz rs, .sl 2 0 o.length o.length 1 1 o.length], true⟩, ⟨o.map (LV.int .i64), true⟩]) ?_ ?_ m
          · rw [if_neg hn] at hcl
            simp only [share_opened, share_opened.B, beqT, beqF, exF_seq, exF_region, exF_block, exF_cond, exF_ret, exF_exit, exF_skip, runL, wantL, stepL, evL, LEnv.at, putL, loadFine, loadL, cellsAt, Trk.putNew, Trk.up, Trk.touch, Trk.gives, Trk.calm, Trk.hit, opdsOf, Trk.fresh, LEnv.keep, LEnv.ofFrom, List.map_cons, List.map_nil, nbeq, nble, nblt, ofAV, ofAVs, lenL, bin_add, bin_sub, bin_mul, bin_eql, bin_neq, bin_lss, bin_leq, bin_gtr, bin_geq, natL_nat, natL_zero, natL_one, natL_two, Nat.zero_mul, List.any_cons, List.any_nil, Bool.or_false, Bool.false_or, Bool.true_or, Bool.or_true, Bool.and_true, Bool.true_and, Bool.and_false, Bool.false_and, Bool.not_true, Bool.not_false, Nat.reduceBEq, Nat.reduceEqDiff, decide_true, decide_false, cond_true, cond_false, List.filter_nil, List.filter_cons, Nat.reduceAdd, Nat.reduceLeDiff, reduceCtorEq, List.length_nil, List.length_cons, Nat.mul_one, if_true, if_false, Bool.false_eq_true, eq_self, and_true, true_and, retL, resultsL, resAllL, resOfL, List.append_nil, List.nil_append, List.cons_append, true_or, or_true, false_or, or_false, false_and, and_false, not_true_eq_false, not_false_eq_true, ne_eq, unL, trim_nil, Int.reduceEq, Int.reduceLT, Int.reduceLE, Int.natCast_zero, LV.cells, allocL, List.getElem?_cons_zero, List.getElem?_cons_succ, storeL, spliceL, List.take_zero, List.take_succ_cons, List.drop_zero, List.drop_succ_cons, List.drop_nil, List.take_nil, Nat.le_refl, Nat.reduceMul, List.set_cons_zero, List.set_cons_succ, LV.scalar, List.all_cons, List.all_nil, Nat.lt_add_one, Nat.zero_lt_one, Nat.lt_irrefl, fillL, List.length_append, foldIntL, kind_beq, pures_int, solids_int, plains_int, unders_int, scalars_int, hc, h1, h2', k1, row_at _ _ k1, hv, hcl]
          · cases o with
            | nil => exact absurd rfl hn
            | cons x r =>
              have ht : (r.map (LV.int .i64)).take r.length = r.map (LV.int .i64) := List.take_of_length_le (by simp)
              simp [view, viewL, viewC, LV.pures, LV.pure, nbeq, nble, pures_int, ht]
      · rw [ha] at hs
        have hv := call_view lp_share_some_int rfl (args := [.func n_share_opened_1 [] [.ptr 0 0 1], IL nl' ex' sz' o]) (m := [⟨[VL nl ex sz rs], true⟩, ⟨[LNIL, LNIL], true⟩]) (ids := [0]) (by simp [views, viewL, viewC, view, LV.pures, LV.pure, nbeq]) (by simp [LV.pures, LV.pure]) hs rfl
        refine ⟨fun _ => ?_, fun h => by simp at h⟩
        refine call_Pv lp_share_opened rfl (by simp [LV.pures, LV.pure]) (v := .tup [.agg [LNIL, LNIL], .int .i64 2]) (m1 := [⟨[VL nl ex sz rs], true⟩, ⟨[LNIL, LNIL], true⟩]) ?_ (view_pure 38 _ _ (by simp [LV.pures, LV.pure])) m
        simp only [share_opened, share_opened.B, beqT, beqF, exF_seq, exF_region, exF_block, exF_cond, exF_ret, exF_exit, exF_skip, runL, wantL, stepL, evL, LEnv.at, putL, loadFine, loadL, cellsAt, Trk.putNew, Trk.up, Trk.touch, Trk.gives, Trk.calm, Trk.hit, opdsOf, Trk.fresh, LEnv.keep, LEnv.ofFrom, List.map_cons, List.map_nil, nbeq, nble, nblt, ofAV, ofAVs, lenL, bin_add, bin_sub, bin_mul, bin_eql, bin_neq, bin_lss, bin_leq, bin_gtr, bin_geq, natL_nat, natL_zero, natL_one, natL_two, Nat.zero_mul, List.any_cons, List.any_nil, Bool.or_false, Bool.false_or, Bool.true_or, Bool.or_true, Bool.and_true, Bool.true_and, Bool.and_false, Bool.false_and, Bool.not_true, Bool.not_false, Nat.reduceBEq, Nat.reduceEqDiff, decide_true, decide_false, cond_true, cond_false, List.filter_nil, List.filter_cons, Nat.reduceAdd, Nat.reduceLeDiff, reduceCtorEq, List.length_nil, List.length_cons, Nat.mul_one, if_true, if_false, Bool.false_eq_true, eq_self, and_true, true_and, retL, resultsL, resAllL, resOfL, List.append_nil, List.nil_append, List.cons_append, true_or, or_true, false_or, or_false, false_and, and_false, not_true_eq_false, not_false_eq_true, ne_eq, unL, trim_nil, Int.reduceEq, Int.reduceLT, Int.reduceLE, Int.natCast_zero, LV.cells, allocL, List.getElem?_cons_zero, List.getElem?_cons_succ, storeL, spliceL, List.take_zero, List.take_succ_cons, List.drop_zero, List.drop_succ_cons, List.drop_nil, List.take_nil, Nat.le_refl, Nat.reduceMul, List.set_cons_zero, List.set_cons_succ, LV.scalar, List.all_cons, List.all_nil, Nat.lt_add_one, Nat.zero_lt_one, Nat.lt_irrefl, fillL, List.length_append, foldIntL, kind_beq, pures_int, solids_int, plains_int, unders_int, scalars_int, hc, h1, h2', k1, row_at _ _ k1, hv]
    · rw [if_pos (by simpa using h2)]
      have h2' : ¬ ((o.length : Int) = rs[0].l.length) := by omega
      refine ⟨fun _ => ?_, fun h => by simp at h⟩
      refine call_Pv lp_share_opened rfl (by simp [LV.pures, LV.pure]) (v := .tup [.agg [LNIL, LNIL], .int .i64 5]) (m1 := [⟨[VL nl ex sz rs], true⟩, ⟨[LNIL, LNIL], true⟩]) ?_ (view_pure 38 _ _ (by simp [LV.pures, LV.pure])) m
      simp only [share_opened, share_opened.B, beqT, beqF, exF_seq, exF_region, exF_block, exF_cond, exF_ret, exF_exit, exF_skip, runL, wantL, stepL, evL, LEnv.at, putL, loadFine, loadL, cellsAt, Trk.putNew, Trk.up, Trk.touch, Trk.gives, Trk.calm, Trk.hit, opdsOf, Trk.fresh, LEnv.keep, LEnv.ofFrom, List.map_cons, List.map_nil, nbeq, nble, nblt, ofAV, ofAVs, lenL, bin_add, bin_sub, bin_mul, bin_eql, bin_neq, bin_lss, bin_leq, bin_gtr, bin_geq, natL_nat, natL_zero, natL_one, natL_two, Nat.zero_mul, List.any_cons, List.any_nil, Bool.or_false, Bool.false_or, Bool.true_or, Bool.or_true, Bool.and_true, Bool.true_and, Bool.and_false, Bool.false_and, Bool.not_true, Bool.not_false, Nat.reduceBEq, Nat.reduceEqDiff, decide_true, decide_false, cond_true, cond_false, List.filter_nil, List.filter_cons, Nat.reduceAdd, Nat.reduceLeDiff, reduceCtorEq, List.length_nil, List.length_cons, Nat.mul_one, if_true, if_false, Bool.false_eq_true, eq_self, and_true, true_and, retL, resultsL, resAllL, resOfL, List.append_nil, List.nil_append, List.cons_append, true_or, or_true, false_or, or_false, false_and, and_false, not_true_eq_false, not_false_eq_true, ne_eq, unL, trim_nil, Int.reduceEq, Int.reduceLT, Int.reduceLE, Int.natCast_zero, LV.cells, allocL, List.getElem?_cons_zero, List.getElem?_cons_succ, storeL, spliceL, List.take_zero, List.take_succ_cons, List.drop_zero, List.drop_succ_cons, List.drop_nil, List.take_nil, Nat.le_refl, Nat.reduceMul, List.set_cons_zero, List.set_cons_succ, LV.scalar, List.all_cons, List.all_nil, Nat.lt_add_one, Nat.zero_lt_one, Nat.lt_irrefl, fillL, List.length_append, foldIntL, kind_beq, pures_int, solids_int, plains_int, unders_int, scalars_int, hc, h1, h2', k1, row_at _ _ k1]
  · rw [if_pos (by simpa using h1)]
    refine ⟨fun _ => ?_, fun h => absurd h h1⟩
    refine call_Pv lp_share_opened rfl (by simp [LV.pures, LV.pure]) (v := .tup [.agg [LNIL, LNIL], .int .i64 (chkV (vals rs))]) (m1 := [⟨[VL nl ex sz rs], true⟩, ⟨[LNIL, LNIL], true⟩]) ?_ (view_pure 38 _ _ (by simp [LV.pures, LV.pure])) m
    simp only [share_opened, share_opened.B, beqT, beqF, exF_seq, exF_region, exF_block, exF_cond, exF_ret, exF_exit, exF_skip, runL, wantL, stepL, evL, LEnv.at, putL, loadFine, loadL, cellsAt, Trk.putNew, Trk.up, Trk.touch, Trk.gives, Trk.calm, Trk.hit, opdsOf, Trk.fresh, LEnv.keep, LEnv.ofFrom, List.map_cons, List.map_nil, nbeq, nble, nblt, ofAV, ofAVs, lenL, bin_add, bin_sub, bin_mul, bin_eql, bin_neq, bin_lss, bin_leq, bin_gtr, bin_geq, natL_nat, natL_zero, natL_one, natL_two, Nat.zero_mul, List.any_cons, List.any_nil, Bool.or_false, Bool.false_or, Bool.true_or, Bool.or_true, Bool.and_true, Bool.true_and, Bool.and_false, Bool.false_and, Bool.not_true, Bool.not_false, Nat.reduceBEq, Nat.reduceEqDiff, decide_true, decide_false, cond_true, cond_false, List.filter_nil, List.filter_cons, Nat.reduceAdd, Nat.reduceLeDiff, reduceCtorEq, List.length_nil, List.length_cons, Nat.mul_one, if_true, if_false, Bool.false_eq_true, eq_self, and_true, true_and, retL, resultsL, resAllL, resOfL, List.append_nil, List.nil_append, List.cons_append, true_or, or_true, false_or, or_false, false_and, and_false, not_true_eq_false, not_false_eq_true, ne_eq, unL, trim_nil, Int.reduceEq, Int.reduceLT, Int.reduceLE, Int.natCast_zero, LV.cells, allocL, List.getElem?_cons_zero, List.getElem?_cons_succ, storeL, spliceL, List.take_zero, List.take_succ_cons, List.drop_zero, List.drop_succ_cons, List.drop_nil, List.take_nil, Nat.le_refl, Nat.reduceMul, List.set_cons_zero, List.set_cons_succ, LV.scalar, List.all_cons, List.all_nil, Nat.lt_add_one, Nat.zero_lt_one, Nat.lt_irrefl, fillL, List.length_append, foldIntL, kind_beq, pures_int, solids_int, plains_int, unders_int, scalars_int, hc, h1]

/-! ### The reference's -/
theorem divided_loop (nl ex nl' ex' : Bool) (sz sz' : Nat) (rs : List Row) (o : List Int) (hl : 0 < rs.length ∧ rs.length < 1000000) (ho : o.length < 1000000) (n : Nat) : ∀ k, k + n = o.length →
    exF LP ref07_divided.L0 [(0, VL nl ex sz rs), (1, IL nl' ex' sz' o), (5, .int .i64 0), (6, .int .i64 (k : Int))] [] = some (.exit 0, [(5, .int .i64 (if (o.drop k).any (fun x => !inB 0 ((rs.length : Int) - 1) x) then 2 else 0))], []) := by
  have hw : IntKind.i64.wrap ((rs.length : Int) - 1) = (rs.length : Int) - 1 := wrap_in (by omega)
  induction n with
  | zero =>
    intro k hk
    rw [ref07_divided.L0_eq]
    simp only [ref07_divided.B0, beqT, beqF, exF_seq, exF_region, exF_block, exF_cond, exF_ret, exF_exit, exF_skip, runL, wantL, stepL, evL, LEnv.at, putL, loadFine, loadL, cellsAt, Trk.putNew, Trk.up, Trk.touch, Trk.gives, Trk.calm, Trk.hit, opdsOf, Trk.fresh, LEnv.keep, LEnv.ofFrom, List.map_cons, List.map_nil, nbeq, nble, nblt, ofAV, ofAVs, lenL, bin_add, bin_sub, bin_mul, bin_eql, bin_neq, bin_lss, bin_leq, bin_gtr, bin_geq, natL_nat, natL_zero, natL_one, natL_two, Nat.zero_mul, List.any_cons, List.any_nil, Bool.or_false, Bool.false_or, Bool.true_or, Bool.or_true, Bool.and_true, Bool.true_and, Bool.and_false, Bool.false_and, Bool.not_true, Bool.not_false, Nat.reduceBEq, Nat.reduceEqDiff, decide_true, decide_false, cond_true, cond_false, List.filter_nil, List.filter_cons, Nat.reduceAdd, Nat.reduceLeDiff, reduceCtorEq, List.length_nil, List.length_cons, Nat.mul_one, if_true, if_false, Bool.false_eq_true, eq_self, and_true, true_and, retL, resultsL, resAllL, resOfL, List.append_nil, List.nil_append, List.cons_append, true_or, or_true, false_or, or_false, false_and, and_false, not_true_eq_false, not_false_eq_true, ne_eq, unL, trim_nil, Int.reduceEq, Int.reduceLT, Int.reduceLE, Int.natCast_zero, LV.cells, allocL, List.getElem?_cons_zero, List.getElem?_cons_succ, storeL, spliceL, List.take_zero, List.take_succ_cons, List.drop_zero, List.drop_succ_cons, List.drop_nil, List.take_nil, Nat.le_refl, Nat.reduceMul, List.set_cons_zero, List.set_cons_succ, LV.scalar, List.all_cons, List.all_nil, Nat.lt_add_one, Nat.zero_lt_one, Nat.lt_irrefl, fillL, List.length_append, foldIntL, kind_beq, pures_int, solids_int, plains_int, unders_int, scalars_int, show ¬ ((k : Int) < (o.length : Int)) by omega]
    simp [List.drop_eq_nil_of_le (show o.length ≤ k by omega)]
  | succ n ih =>
    intro k hk
    have h2 : k < o.length := by omega
    rw [ref07_divided.L0_eq, List.drop_eq_getElem_cons h2]
    cases he : inB 0 ((rs.length : Int) - 1) o[k]
    · simp only [ref07_divided.B0, beqT, beqF, exF_seq, exF_region, exF_block, exF_cond, exF_ret, exF_exit, exF_skip, runL, wantL, stepL, evL, LEnv.at, putL, loadFine, loadL, cellsAt, Trk.putNew, Trk.up, Trk.touch, Trk.gives, Trk.calm, Trk.hit, opdsOf, Trk.fresh, LEnv.keep, LEnv.ofFrom, List.map_cons, List.map_nil, nbeq, nble, nblt, ofAV, ofAVs, lenL, bin_add, bin_sub, bin_mul, bin_eql, bin_neq, bin_lss, bin_leq, bin_gtr, bin_geq, natL_nat, natL_zero, natL_one, natL_two, Nat.zero_mul, List.any_cons, List.any_nil, Bool.or_false, Bool.false_or, Bool.true_or, Bool.or_true, Bool.and_true, Bool.true_and, Bool.and_false, Bool.false_and, Bool.not_true, Bool.not_false, Nat.reduceBEq, Nat.reduceEqDiff, decide_true, decide_false, cond_true, cond_false, List.filter_nil, List.filter_cons, Nat.reduceAdd, Nat.reduceLeDiff, reduceCtorEq, List.length_nil, List.length_cons, Nat.mul_one, if_true, if_false, Bool.false_eq_true, eq_self, and_true, true_and, retL, resultsL, resAllL, resOfL, List.append_nil, List.nil_append, List.cons_append, true_or, or_true, false_or, or_false, false_and, and_false, not_true_eq_false, not_false_eq_true, ne_eq, unL, trim_nil, Int.reduceEq, Int.reduceLT, Int.reduceLE, Int.natCast_zero, LV.cells, allocL, List.getElem?_cons_zero, List.getElem?_cons_succ, storeL, spliceL, List.take_zero, List.take_succ_cons, List.drop_zero, List.drop_succ_cons, List.drop_nil, List.take_nil, Nat.le_refl, Nat.reduceMul, List.set_cons_zero, List.set_cons_succ, LV.scalar, List.all_cons, List.all_nil, Nat.lt_add_one, Nat.zero_lt_one, Nat.lt_irrefl, fillL, List.length_append, foldIntL, kind_beq, pures_int, solids_int, plains_int, unders_int, scalars_int, show ((k : Int) < (o.length : Int)) by omega, h2, int_at _ _ _ h2, in_c, he, hw, List.any_cons, wrap_succ (show k + 1 < 9223372036854775808 by omega)]
      rw [ref07_divided.L0_eq]
      by_cases h5 : ((k + 1 : Nat) : Int) < (o.length : Int)
      · simp only [ref07_divided.B0, beqT, beqF, exF_seq, exF_region, exF_block, exF_cond, exF_ret, exF_exit, exF_skip, runL, wantL, stepL, evL, LEnv.at, putL, loadFine, loadL, cellsAt, Trk.putNew, Trk.up, Trk.touch, Trk.gives, Trk.calm, Trk.hit, opdsOf, Trk.fresh, LEnv.keep, LEnv.ofFrom, List.map_cons, List.map_nil, nbeq, nble, nblt, ofAV, ofAVs, lenL, bin_add, bin_sub, bin_mul, bin_eql, bin_neq, bin_lss, bin_leq, bin_gtr, bin_geq, natL_nat, natL_zero, natL_one, natL_two, Nat.zero_mul, List.any_cons, List.any_nil, Bool.or_false, Bool.false_or, Bool.true_or, Bool.or_true, Bool.and_true, Bool.true_and, Bool.and_false, Bool.false_and, Bool.not_true, Bool.not_false, Nat.reduceBEq, Nat.reduceEqDiff, decide_true, decide_false, cond_true, cond_false, List.filter_nil, List.filter_cons, Nat.reduceAdd, Nat.reduceLeDiff, reduceCtorEq, List.length_nil, List.length_cons, Nat.mul_one, if_true, if_false, Bool.false_eq_true, eq_self, and_true, true_and, retL, resultsL, resAllL, resOfL, List.append_nil, List.nil_append, List.cons_append, true_or, or_true, false_or, or_false, false_and, and_false, not_true_eq_false, not_false_eq_true, ne_eq, unL, trim_nil, Int.reduceEq, Int.reduceLT, Int.reduceLE, Int.natCast_zero, LV.cells, allocL, List.getElem?_cons_zero, List.getElem?_cons_succ, storeL, spliceL, List.take_zero, List.take_succ_cons, List.drop_zero, List.drop_succ_cons, List.drop_nil, List.take_nil, Nat.le_refl, Nat.reduceMul, List.set_cons_zero, List.set_cons_succ, LV.scalar, List.all_cons, List.all_nil, Nat.lt_add_one, Nat.zero_lt_one, Nat.lt_irrefl, fillL, List.length_append, foldIntL, kind_beq, pures_int, solids_int, plains_int, unders_int, scalars_int, h5]
      · simp only [ref07_divided.B0, beqT, beqF, exF_seq, exF_region, exF_block, exF_cond, exF_ret, exF_exit, exF_skip, runL, wantL, stepL, evL, LEnv.at, putL, loadFine, loadL, cellsAt, Trk.putNew, Trk.up, Trk.touch, Trk.gives, Trk.calm, Trk.hit, opdsOf, Trk.fresh, LEnv.keep, LEnv.ofFrom, List.map_cons, List.map_nil, nbeq, nble, nblt, ofAV, ofAVs, lenL, bin_add, bin_sub, bin_mul, bin_eql, bin_neq, bin_lss, bin_leq, bin_gtr, bin_geq, natL_nat, natL_zero, natL_one, natL_two, Nat.zero_mul, List.any_cons, List.any_nil, Bool.or_false, Bool.false_or, Bool.true_or, Bool.or_true, Bool.and_true, Bool.true_and, Bool.and_false, Bool.false_and, Bool.not_true, Bool.not_false, Nat.reduceBEq, Nat.reduceEqDiff, decide_true, decide_false, cond_true, cond_false, List.filter_nil, List.filter_cons, Nat.reduceAdd, Nat.reduceLeDiff, reduceCtorEq, List.length_nil, List.length_cons, Nat.mul_one, if_true, if_false, Bool.false_eq_true, eq_self, and_true, true_and, retL, resultsL, resAllL, resOfL, List.append_nil, List.nil_append, List.cons_append, true_or, or_true, false_or, or_false, false_and, and_false, not_true_eq_false, not_false_eq_true, ne_eq, unL, trim_nil, Int.reduceEq, Int.reduceLT, Int.reduceLE, Int.natCast_zero, LV.cells, allocL, List.getElem?_cons_zero, List.getElem?_cons_succ, storeL, spliceL, List.take_zero, List.take_succ_cons, List.drop_zero, List.drop_succ_cons, List.drop_nil, List.take_nil, Nat.le_refl, Nat.reduceMul, List.set_cons_zero, List.set_cons_succ, LV.scalar, List.all_cons, List.all_nil, Nat.lt_add_one, Nat.zero_lt_one, Nat.lt_irrefl, fillL, List.length_append, foldIntL, kind_beq, pures_int, solids_int, plains_int, unders_int, scalars_int, h5]
    · simp only [ref07_divided.B0, beqT, beqF, exF_seq, exF_region, exF_block, exF_cond, exF_ret, exF_exit, exF_skip, runL, wantL, stepL, evL, LEnv.at, putL, loadFine, loadL, cellsAt, Trk.putNew, Trk.up, Trk.touch, Trk.gives, Trk.calm, Trk.hit, opdsOf, Trk.fresh, LEnv.keep, LEnv.ofFrom, List.map_cons, List.map_nil, nbeq, nble, nblt, ofAV, ofAVs, lenL, bin_add, bin_sub, bin_mul, bin_eql, bin_neq, bin_lss, bin_leq, bin_gtr, bin_geq, natL_nat, natL_zero, natL_one, natL_two, Nat.zero_mul, List.any_cons, List.any_nil, Bool.or_false, Bool.false_or, Bool.true_or, Bool.or_true, Bool.and_true, Bool.true_and, Bool.and_false, Bool.false_and, Bool.not_true, Bool.not_false, Nat.reduceBEq, Nat.reduceEqDiff, decide_true, decide_false, cond_true, cond_false, List.filter_nil, List.filter_cons, Nat.reduceAdd, Nat.reduceLeDiff, reduceCtorEq, List.length_nil, List.length_cons, Nat.mul_one, if_true, if_false, Bool.false_eq_true, eq_self, and_true, true_and, retL, resultsL, resAllL, resOfL, List.append_nil, List.nil_append, List.cons_append, true_or, or_true, false_or, or_false, false_and, and_false, not_true_eq_false, not_false_eq_true, ne_eq, unL, trim_nil, Int.reduceEq, Int.reduceLT, Int.reduceLE, Int.natCast_zero, LV.cells, allocL, List.getElem?_cons_zero, List.getElem?_cons_succ, storeL, spliceL, List.take_zero, List.take_succ_cons, List.drop_zero, List.drop_succ_cons, List.drop_nil, List.take_nil, Nat.le_refl, Nat.reduceMul, List.set_cons_zero, List.set_cons_succ, LV.scalar, List.all_cons, List.all_nil, Nat.lt_add_one, Nat.zero_lt_one, Nat.lt_irrefl, fillL, List.length_append, foldIntL, kind_beq, pures_int, solids_int, plains_int, unders_int, scalars_int, show ((k : Int) < (o.length : Int)) by omega, h2, int_at _ _ _ h2, in_c, he, hw, List.any_cons, wrap_succ (show k + 1 < 9223372036854775808 by omega), ih (k + 1) (by omega)]
theorem divided_stop (nl ex nl' ex' : Bool) (sz sz' : Nat) (rs : List Row) (o : List Int) (e : Int) (he : e ≠ 0) : exF LP ref07_divided.L0 [(0, VL nl ex sz rs), (1, IL nl' ex' sz' o), (5, .int .i64 e), (6, .int .i64 0)] [] = some (.exit 0, [(5, .int .i64 e)], []) := by
  rw [ref07_divided.L0_eq]
  by_cases h5 : (0 : Int) < (o.length : Int)
  · simp only [ref07_divided.B0, beqT, beqF, exF_seq, exF_region, exF_block, exF_cond, exF_ret, exF_exit, exF_skip, runL, wantL, stepL, evL, LEnv.at, putL, loadFine, loadL, cellsAt, Trk.putNew, Trk.up, Trk.touch, Trk.gives, Trk.calm, Trk.hit, opdsOf, Trk.fresh, LEnv.keep, LEnv.ofFrom, List.map_cons, List.map_nil, nbeq, nble, nblt, ofAV, ofAVs, lenL, bin_add, bin_sub, bin_mul, bin_eql, bin_neq, bin_lss, bin_leq, bin_gtr, bin_geq, natL_nat, natL_zero, natL_one, natL_two, Nat.zero_mul, List.any_cons, List.any_nil, Bool.or_false, Bool.false_or, Bool.true_or, Bool.or_true, Bool.and_true, Bool.true_and, Bool.and_false, Bool.false_and, Bool.not_true, Bool.not_false, Nat.reduceBEq, Nat.reduceEqDiff, decide_true, decide_false, cond_true, cond_false, List.filter_nil, List.filter_cons, Nat.reduceAdd, Nat.reduceLeDiff, reduceCtorEq, List.length_nil, List.length_cons, Nat.mul_one, if_true, if_false, Bool.false_eq_true, eq_self, and_true, true_and, retL, resultsL, resAllL, resOfL, List.append_nil, List.nil_append, List.cons_append, true_or, or_true, false_or, or_false, false_and, and_false, not_true_eq_false, not_false_eq_true, ne_eq, unL, trim_nil, Int.reduceEq, Int.reduceLT, Int.reduceLE, Int.natCast_zero, LV.cells, allocL, List.getElem?_cons_zero, List.getElem?_cons_succ, storeL, spliceL, List.take_zero, List.take_succ_cons, List.drop_zero, List.drop_succ_cons, List.drop_nil, List.take_nil, Nat.le_refl, Nat.reduceMul, List.set_cons_zero, List.set_cons_succ, LV.scalar, List.all_cons, List.all_nil, Nat.lt_add_one, Nat.zero_lt_one, Nat.lt_irrefl, fillL, List.length_append, foldIntL, kind_beq, pures_int, solids_int, plains_int, unders_int, scalars_int, h5, he]
  · simp only [ref07_divided.B0, beqT, beqF, exF_seq, exF_region, exF_block, exF_cond, exF_ret, exF_exit, exF_skip, runL, wantL, stepL, evL, LEnv.at, putL, loadFine, loadL, cellsAt, Trk.putNew, Trk.up, Trk.touch, Trk.gives, Trk.calm, Trk.hit, opdsOf, Trk.fresh, LEnv.keep, LEnv.ofFrom, List.map_cons, List.map_nil, nbeq, nble, nblt, ofAV, ofAVs, lenL, bin_add, bin_sub, bin_mul, bin_eql, bin_neq, bin_lss, bin_leq, bin_gtr, bin_geq, natL_nat, natL_zero, natL_one, natL_two, Nat.zero_mul, List.any_cons, List.any_nil, Bool.or_false, Bool.false_or, Bool.true_or, Bool.or_true, Bool.and_true, Bool.true_and, Bool.and_false, Bool.false_and, Bool.not_true, Bool.not_false, Nat.reduceBEq, Nat.reduceEqDiff, decide_true, decide_false, cond_true, cond_false, List.filter_nil, List.filter_cons, Nat.reduceAdd, Nat.reduceLeDiff, reduceCtorEq, List.length_nil, List.length_cons, Nat.mul_one, if_true, if_false, Bool.false_eq_true, eq_self, and_true, true_and, retL, resultsL, resAllL, resOfL, List.append_nil, List.nil_append, List.cons_append, true_or, or_true, false_or, or_false, false_and, and_false, not_true_eq_false, not_false_eq_true, ne_eq, unL, trim_nil, Int.reduceEq, Int.reduceLT, Int.reduceLE, Int.natCast_zero, LV.cells, allocL, List.getElem?_cons_zero, List.getElem?_cons_succ, storeL, spliceL, List.take_zero, List.take_succ_cons, List.drop_zero, List.drop_succ_cons, List.drop_nil, List.take_nil, Nat.le_refl, Nat.reduceMul, List.set_cons_zero, List.set_cons_succ, LV.scalar, List.all_cons, List.all_nil, Nat.lt_add_one, Nat.zero_lt_one, Nat.lt_irrefl, fillL, List.length_append, foldIntL, kind_beq, pures_int, solids_int, plains_int, unders_int, scalars_int, h5, he]
theorem divided_c (nl ex nl' ex' : Bool) (sz sz' : Nat) (rs : List Row) (o : List Int) (hl : rs.length < 1000000) (hr : ∀ r ∈ rs, r.l.length < 1000000) (ho : o.length < 1000000) (m : LMem) :
    clF LP n_ref07_divided [VL nl ex sz rs, IL nl' ex' sz' o] m = some (.P, .int .i64 (divE (vals rs) o), m) := by
  refine call_P lp_ref07_divided rfl (by simp [LV.pures, LV.pure]) (m1 := []) ?_ rfl m
  have hc := fun m => rcheck_c nl ex sz rs hl hr m
  unfold divE
  rw [vals_length]
  by_cases h1 : chkV (vals rs) = 0
  · obtain ⟨k1, k2, k3, k4⟩ := chkV_ok h1
    rw [vals_length] at k1
    rw [vals0 rs k1, if_neg (by simpa using h1)]
    by_cases h2 : o.length = rs[0].l.length
    · rw [if_neg (by simpa using h2)]
      have h2' : ((o.length : Int) = rs[0].l.length) := by omega
      have := divided_loop nl ex nl' ex' sz sz' rs o ⟨k1, hl⟩ ho o.length 0 (by omega)
      simp only [Int.natCast_zero, List.drop_zero] at this
      simp only [ref07_divided, ref07_divided.B, beqT, beqF, exF_seq, exF_region, exF_block, exF_cond, exF_ret, exF_exit, exF_skip, runL, wantL, stepL, evL, LEnv.at, putL, loadFine, loadL, cellsAt, Trk.putNew, Trk.up, Trk.touch, Trk.gives, Trk.calm, Trk.hit, opdsOf, Trk.fresh, LEnv.keep, LEnv.ofFrom, List.map_cons, List.map_nil, nbeq, nble, nblt, ofAV, ofAVs, lenL, bin_add, bin_sub, bin_mul, bin_eql, bin_neq, bin_lss, bin_leq, bin_gtr, bin_geq, natL_nat, natL_zero, natL_one, natL_two, Nat.zero_mul, List.any_cons, List.any_nil, Bool.or_false, Bool.false_or, Bool.true_or, Bool.or_true, Bool.and_true, Bool.true_and, Bool.and_false, Bool.false_and, Bool.not_true, Bool.not_false, Nat.reduceBEq, Nat.reduceEqDiff, decide_true, decide_false, cond_true, cond_false, List.filter_nil, List.filter_cons, Nat.reduceAdd, Nat.reduceLeDiff, reduceCtorEq, List.length_nil, List.length_cons, Nat.mul_one, if_true, if_false, Bool.false_eq_true, eq_self, and_true, true_and, retL, resultsL, resAllL, resOfL, List.append_nil, List.nil_append, List.cons_append, true_or, or_true, false_or, or_false, false_and, and_false, not_true_eq_false, not_false_eq_true, ne_eq, unL, trim_nil, Int.reduceEq, Int.reduceLT, Int.reduceLE, Int.natCast_zero, LV.cells, allocL, List.getElem?_cons_zero, List.getElem?_cons_succ, storeL, spliceL, List.take_zero, List.take_succ_cons, List.drop_zero, List.drop_succ_cons, List.drop_nil, List.take_nil, Nat.le_refl, Nat.reduceMul, List.set_cons_zero, List.set_cons_succ, LV.scalar, List.all_cons, List.all_nil, Nat.lt_add_one, Nat.zero_lt_one, Nat.lt_irrefl, fillL, List.length_append, foldIntL, kind_beq, pures_int, solids_int, plains_int, unders_int, scalars_int, hc, h1, h2', k1, row_at _ _ k1, this]
    · rw [if_pos (by simpa using h2)]
      have h2' : ¬ ((o.length : Int) = rs[0].l.length) := by omega
      simp only [ref07_divided, ref07_divided.B, beqT, beqF, exF_seq, exF_region, exF_block, exF_cond, exF_ret, exF_exit, exF_skip, runL, wantL, stepL, evL, LEnv.at, putL, loadFine, loadL, cellsAt, Trk.putNew, Trk.up, Trk.touch, Trk.gives, Trk.calm, Trk.hit, opdsOf, Trk.fresh, LEnv.keep, LEnv.ofFrom, List.map_cons, List.map_nil, nbeq, nble, nblt, ofAV, ofAVs, lenL, bin_add, bin_sub, bin_mul, bin_eql, bin_neq, bin_lss, bin_leq, bin_gtr, bin_geq, natL_nat, natL_zero, natL_one, natL_two, Nat.zero_mul, List.any_cons, List.any_nil, Bool.or_false, Bool.false_or, Bool.true_or, Bool.or_true, Bool.and_true, Bool.true_and, Bool.and_false, Bool.false_and, Bool.not_true, Bool.not_false, Nat.reduceBEq, Nat.reduceEqDiff, decide_true, decide_false, cond_true, cond_false, List.filter_nil, List.filter_cons, Nat.reduceAdd, Nat.reduceLeDiff, reduceCtorEq, List.length_nil, List.length_cons, Nat.mul_one, if_true, if_false, Bool.false_eq_true, eq_self, and_true, true_and, retL, resultsL, resAllL, resOfL, List.append_nil, List.nil_append, List.cons_append, true_or, or_true, false_or, or_false, false_and, and_false, not_true_eq_false, not_false_eq_true, ne_eq, unL, trim_nil, Int.reduceEq, Int.reduceLT, Int.reduceLE, Int.natCast_zero, LV.cells, allocL, List.getElem?_cons_zero, List.getElem?_cons_succ, storeL, spliceL, List.take_zero, List.take_succ_cons, List.drop_zero, List.drop_succ_cons, List.drop_nil, List.take_nil, Nat.le_refl, Nat.reduceMul, List.set_cons_zero, List.set_cons_succ, LV.scalar, List.all_cons, List.all_nil, Nat.lt_add_one, Nat.zero_lt_one, Nat.lt_irrefl, fillL, List.length_append, foldIntL, kind_beq, pures_int, solids_int, plains_int, unders_int, scalars_int, hc, h1, h2', k1, row_at _ _ k1, divided_stop nl ex nl' ex' sz sz' rs o 5 (by omega)]
  · rw [if_pos (by simpa using h1)]
    simp only [ref07_divided, ref07_divided.B, beqT, beqF, exF_seq, exF_region, exF_block, exF_cond, exF_ret, exF_exit, exF_skip, runL, wantL, stepL, evL, LEnv.at, putL, loadFine, loadL, cellsAt, Trk.putNew, Trk.up, Trk.touch, Trk.gives, Trk.calm, Trk.hit, opdsOf, Trk.fresh, LEnv.keep, LEnv.ofFrom, List.map_cons, List.map_nil, nbeq, nble, nblt, ofAV, ofAVs, lenL, bin_add, bin_sub, bin_mul, bin_eql, bin_neq, bin_lss, bin_leq, bin_gtr, bin_geq, natL_nat, natL_zero, natL_one, natL_two, Nat.zero_mul, List.any_cons, List.any_nil, Bool.or_false, Bool.false_or, Bool.true_or, Bool.or_true, Bool.and_true, Bool.true_and, Bool.and_false, Bool.false_and, Bool.not_true, Bool.not_false, Nat.reduceBEq, Nat.reduceEqDiff, decide_true, decide_false, cond_true, cond_false, List.filter_nil, List.filter_cons, Nat.reduceAdd, Nat.reduceLeDiff, reduceCtorEq, List.length_nil, List.length_cons, Nat.mul_one, if_true, if_false, Bool.false_eq_true, eq_self, and_true, true_and, retL, resultsL, resAllL, resOfL, List.append_nil, List.nil_append, List.cons_append, true_or, or_true, false_or, or_false, false_and, and_false, not_true_eq_false, not_false_eq_true, ne_eq, unL, trim_nil, Int.reduceEq, Int.reduceLT, Int.reduceLE, Int.natCast_zero, LV.cells, allocL, List.getElem?_cons_zero, List.getElem?_cons_succ, storeL, spliceL, List.take_zero, List.take_succ_cons, List.drop_zero, List.drop_succ_cons, List.drop_nil, List.take_nil, Nat.le_refl, Nat.reduceMul, List.set_cons_zero, List.set_cons_succ, LV.scalar, List.all_cons, List.all_nil, Nat.lt_add_one, Nat.zero_lt_one, Nat.lt_irrefl, fillL, List.length_append, foldIntL, kind_beq, pures_int, solids_int, plains_int, unders_int, scalars_int, hc, h1, divided_stop nl ex nl' ex' sz sz' rs o _ h1]

/-- No thing of the share is all that is envied. -/
def mloop (j wij wii : Int) : List Int → List Int → Bool
  | r :: rs, o :: os => if o = j ∧ wij - r ≤ wii then false else mloop j wij wii rs os
  | _, _ => true
theorem mloop_wg (j wij wii : Int) : ∀ (r o : List Int) (a : Int × Int), (0 < wij - (wg j r o a).2 - wii) ↔ (0 < wij - a.2 - wii ∧ mloop j wij wii r o = true)
  | [], _, a => by simp [wg, mloop]
  | r :: rs, [], a => by simp [wg, mloop]
  | r :: rs, o :: os, a => by
    rw [wg, mloop, mloop_wg j wij wii rs os]
    by_cases h : o = j
    · simp only [h, true_and, if_true]
      by_cases h2 : wij - r ≤ wii
      · rw [if_pos h2]
        simp only [Bool.false_eq_true, and_false, iff_false, not_and]
        intro h3
        split at h3 <;> omega
      · rw [if_neg h2]
        constructor
        · rintro ⟨h3, h4⟩
          refine ⟨?_, h4⟩
          split at h3 <;> omega
        · rintro ⟨h3, h4⟩
          refine ⟨?_, h4⟩
          split <;> omega
    · simp [h]
theorem much_loop (nl ex nl' ex' : Bool) (sz sz' : Nat) (rs : List Row) (i : Nat) (hi : i < rs.length) (o : List Int) (ho : o.length = rs[i].l.length) (h20 : Ok20 rs[i].l) (hlen : o.length ≤ 100) (j : Nat) (n : Nat) : ∀ (k : Nat), k + n = o.length →
    exF LP ref07_much.L0 [(0, VL nl ex sz rs), (1, IL nl' ex' sz' o), (2, .int .i64 (i : Int)), (3, .int .i64 (j : Int)), (9, .int .i64 (k : Int))] [] =
      if mloop j (ws j rs[i].l o 0) (ws i rs[i].l o 0) (rs[i].l.drop k) (o.drop k) then some (.exit 0, [], []) else some (.ret, [(8, .bool false)], []) := by
  have hw := fun (j : Int) m => worth_c nl ex nl' ex' sz sz' rs i hi o ho h20 hlen j m
  have b1 := ws_bound j rs[i].l o 0 h20 (by omega)
  induction n with
  | zero =>
    intro k hk
    rw [ref07_much.L0_eq]
    simp only [ref07_much.B0, beqT, beqF, exF_seq, exF_region, exF_block, exF_cond, exF_ret, exF_exit, exF_skip, runL, wantL, stepL, evL, LEnv.at, putL, loadFine, loadL, cellsAt, Trk.putNew, Trk.up, Trk.touch, Trk.gives, Trk.calm, Trk.hit, opdsOf, Trk.fresh, LEnv.keep, LEnv.ofFrom, List.map_cons, List.map_nil, nbeq, nble, nblt, ofAV, ofAVs, lenL, bin_add, bin_sub, bin_mul, bin_eql, bin_neq, bin_lss, bin_leq, bin_gtr, bin_geq, natL_nat, natL_zero, natL_one, natL_two, Nat.zero_mul, List.any_cons, List.any_nil, Bool.or_false, Bool.false_or, Bool.true_or, Bool.or_true, Bool.and_true, Bool.true_and, Bool.and_false, Bool.false_and, Bool.not_true, Bool.not_false, Nat.reduceBEq, Nat.reduceEqDiff, decide_true, decide_false, cond_true, cond_false, List.filter_nil, List.filter_cons, Nat.reduceAdd, Nat.reduceLeDiff, reduceCtorEq, List.length_nil, List.length_cons, Nat.mul_one, if_true, if_false, Bool.false_eq_true, eq_self, and_true, true_and, retL, resultsL, resAllL, resOfL, List.append_nil, List.nil_append, List.cons_append, true_or, or_true, false_or, or_false, false_and, and_false, not_true_eq_false, not_false_eq_true, ne_eq, unL, trim_nil, Int.reduceEq, Int.reduceLT, Int.reduceLE, Int.natCast_zero, LV.cells, allocL, List.getElem?_cons_zero, List.getElem?_cons_succ, storeL, spliceL, List.take_zero, List.take_succ_cons, List.drop_zero, List.drop_succ_cons, List.drop_nil, List.take_nil, Nat.le_refl, Nat.reduceMul, List.set_cons_zero, List.set_cons_succ, LV.scalar, List.all_cons, List.all_nil, Nat.lt_add_one, Nat.zero_lt_one, Nat.lt_irrefl, fillL, List.length_append, foldIntL, kind_beq, pures_int, solids_int, plains_int, unders_int, scalars_int, show ¬ ((k : Int) < (o.length : Int)) by omega]
    simp [List.drop_eq_nil_of_le (show o.length ≤ k by omega), List.drop_eq_nil_of_le (show rs[i].l.length ≤ k by omega), mloop]
  | succ n ih =>
    intro k hk
    have h2 : k < o.length := by omega
    have h3 : k < rs[i].l.length := by omega
    have hx := h20.at k h3
    rw [ref07_much.L0_eq, List.drop_eq_getElem_cons h2, List.drop_eq_getElem_cons h3, mloop]
    have hwr : IntKind.i64.wrap (ws j rs[i].l o 0 - rs[i].l[k]) = ws j rs[i].l o 0 - rs[i].l[k] := wrap_in (by omega)
    by_cases he : o[k] = j
    · by_cases hq : ws j rs[i].l o 0 - rs[i].l[k] ≤ ws i rs[i].l o 0
      · simp only [ref07_much.B0, beqT, beqF, exF_seq, exF_region, exF_block, exF_cond, exF_ret, exF_exit, exF_skip, runL, wantL, stepL, evL, LEnv.at, putL, loadFine, loadL, cellsAt, Trk.putNew, Trk.up, Trk.touch, Trk.gives, Trk.calm, Trk.hit, opdsOf, Trk.fresh, LEnv.keep, LEnv.ofFrom, List.map_cons, List.map_nil, nbeq, nble, nblt, ofAV, ofAVs, lenL, bin_add, bin_sub, bin_mul, bin_eql, bin_neq, bin_lss, bin_leq, bin_gtr, bin_geq, natL_nat, natL_zero, natL_one, natL_two, Nat.zero_mul, List.any_cons, List.any_nil, Bool.or_false, Bool.false_or, Bool.true_or, Bool.or_true, Bool.and_true, Bool.true_and, Bool.and_false, Bool.false_and, Bool.not_true, Bool.not_false, Nat.reduceBEq, Nat.reduceEqDiff, decide_true, decide_false, cond_true, cond_false, List.filter_nil, List.filter_cons, Nat.reduceAdd, Nat.reduceLeDiff, reduceCtorEq, List.length_nil, List.length_cons, Nat.mul_one, if_true, if_false, Bool.false_eq_true, eq_self, and_true, true_and, retL, resultsL, resAllL, resOfL, List.append_nil, List.nil_append, List.cons_append, true_or, or_true, false_or, or_false, false_and, and_false, not_true_eq_false, not_false_eq_true, ne_eq, unL, trim_nil, Int.reduceEq, Int.reduceLT, Int.reduceLE, Int.natCast_zero, LV.cells, allocL, List.getElem?_cons_zero, List.getElem?_cons_succ, storeL, spliceL, List.take_zero, List.take_succ_cons, List.drop_zero, List.drop_succ_cons, List.drop_nil, List.take_nil, Nat.le_refl, Nat.reduceMul, List.set_cons_zero, List.set_cons_succ, LV.scalar, List.all_cons, List.all_nil, Nat.lt_add_one, Nat.zero_lt_one, Nat.lt_irrefl, fillL, List.length_append, foldIntL, kind_beq, pures_int, solids_int, plains_int, unders_int, scalars_int, show ((k : Int) < (o.length : Int)) by omega, h2, h3, hi, row_at _ _ hi, int_at _ _ _ h2, int_at _ _ _ h3, he, hw, hwr, hq]
      · simp only [ref07_much.B0, beqT, beqF, exF_seq, exF_region, exF_block, exF_cond, exF_ret, exF_exit, exF_skip, runL, wantL, stepL, evL, LEnv.at, putL, loadFine, loadL, cellsAt, Trk.putNew, Trk.up, Trk.touch, Trk.gives, Trk.calm, Trk.hit, opdsOf, Trk.fresh, LEnv.keep, LEnv.ofFrom, List.map_cons, List.map_nil, nbeq, nble, nblt, ofAV, ofAVs, lenL, bin_add, bin_sub, bin_mul, bin_eql, bin_neq, bin_lss, bin_leq, bin_gtr, bin_geq, natL_nat, natL_zero, natL_one, natL_two, Nat.zero_mul, List.any_cons, List.any_nil, Bool.or_false, Bool.false_or, Bool.true_or, Bool.or_true, Bool.and_true, Bool.true_and, Bool.and_false, Bool.false_and, Bool.not_true, Bool.not_false, Nat.reduceBEq, Nat.reduceEqDiff, decide_true, decide_false, cond_true, cond_false, List.filter_nil, List.filter_cons, Nat.reduceAdd, Nat.reduceLeDiff, reduceCtorEq, List.length_nil, List.length_cons, Nat.mul_one, if_true, if_false, Bool.false_eq_true, eq_self, and_true, true_and, retL, resultsL, resAllL, resOfL, List.append_nil, List.nil_append, List.cons_append, true_or, or_true, false_or, or_false, false_and, and_false, not_true_eq_false, not_false_eq_true, ne_eq, unL, trim_nil, Int.reduceEq, Int.reduceLT, Int.reduceLE, Int.natCast_zero, LV.cells, allocL, List.getElem?_cons_zero, List.getElem?_cons_succ, storeL, spliceL, List.take_zero, List.take_succ_cons, List.drop_zero, List.drop_succ_cons, List.drop_nil, List.take_nil, Nat.le_refl, Nat.reduceMul, List.set_cons_zero, List.set_cons_succ, LV.scalar, List.all_cons, List.all_nil, Nat.lt_add_one, Nat.zero_lt_one, Nat.lt_irrefl, fillL, List.length_append, foldIntL, kind_beq, pures_int, solids_int, plains_int, unders_int, scalars_int, show ((k : Int) < (o.length : Int)) by omega, h2, h3, hi, row_at _ _ hi, int_at _ _ _ h2, int_at _ _ _ h3, he, hw, hwr, hq, wrap_succ (show k + 1 < 9223372036854775808 by omega), ih (k + 1) (by omega)]
    · simp only [ref07_much.B0, beqT, beqF, exF_seq, exF_region, exF_block, exF_cond, exF_ret, exF_exit, exF_skip, runL, wantL, stepL, evL, LEnv.at, putL, loadFine, loadL, cellsAt, Trk.putNew, Trk.up, Trk.touch, Trk.gives, Trk.calm, Trk.hit, opdsOf, Trk.fresh, LEnv.keep, LEnv.ofFrom, List.map_cons, List.map_nil, nbeq, nble, nblt, ofAV, ofAVs, lenL, bin_add, bin_sub, bin_mul, bin_eql, bin_neq, bin_lss, bin_leq, bin_gtr, bin_geq, natL_nat, natL_zero, natL_one, natL_two, Nat.zero_mul, List.any_cons, List.any_nil, Bool.or_false, Bool.false_or, Bool.true_or, Bool.or_true, Bool.and_true, Bool.true_and, Bool.and_false, Bool.false_and, Bool.not_true, Bool.not_false, Nat.reduceBEq, Nat.reduceEqDiff, decide_true, decide_false, cond_true, cond_false, List.filter_nil, List.filter_cons, Nat.reduceAdd, Nat.reduceLeDiff, reduceCtorEq, List.length_nil, List.length_cons, Nat.mul_one, if_true, if_false, Bool.false_eq_true, eq_self, and_true, true_and, retL, resultsL, resAllL, resOfL, List.append_nil, List.nil_append, List.cons_append, true_or, or_true, false_or, or_false, false_and, and_false, not_true_eq_false, not_false_eq_true, ne_eq, unL, trim_nil, Int.reduceEq, Int.reduceLT, Int.reduceLE, Int.natCast_zero, LV.cells, allocL, List.getElem?_cons_zero, List.getElem?_cons_succ, storeL, spliceL, List.take_zero, List.take_succ_cons, List.drop_zero, List.drop_succ_cons, List.drop_nil, List.take_nil, Nat.le_refl, Nat.reduceMul, List.set_cons_zero, List.set_cons_succ, LV.scalar, List.all_cons, List.all_nil, Nat.lt_add_one, Nat.zero_lt_one, Nat.lt_irrefl, fillL, List.length_append, foldIntL, kind_beq, pures_int, solids_int, plains_int, unders_int, scalars_int, show ((k : Int) < (o.length : Int)) by omega, h2, h3, hi, row_at _ _ hi, int_at _ _ _ h2, int_at _ _ _ h3, he, wrap_succ (show k + 1 < 9223372036854775808 by omega), ih (k + 1) (by omega)]
/-- How much one envies another one, with and without the greatest thing. -/
def envW (rs : List Row) (i : Nat) (hi : i < rs.length) (o : List Int) (j : Nat) : Int := (wg j rs[i].l o (0, 0)).1 - (wg i rs[i].l o (0, 0)).1
def envX (rs : List Row) (i : Nat) (hi : i < rs.length) (o : List Int) (j : Nat) : Int := (wg j rs[i].l o (0, 0)).1 - (wg j rs[i].l o (0, 0)).2 - (wg i rs[i].l o (0, 0)).1
theorem much_c (nl ex nl' ex' : Bool) (sz sz' : Nat) (rs : List Row) (i : Nat) (hi : i < rs.length) (o : List Int) (ho : o.length = rs[i].l.length) (h20 : Ok20 rs[i].l) (hlen : o.length ≤ 100) (j : Nat) (m : LMem) :
    clF LP n_ref07_much [VL nl ex sz rs, IL nl' ex' sz' o, .int .i64 (i : Int), .int .i64 (j : Int)] m = some (.P, .bool (decide (0 < envX rs i hi o j)), m) := by
  refine call_P lp_ref07_much rfl (by simp [LV.pures, LV.pure]) (m1 := []) ?_ rfl m
  have he := fun m => envies_c nl ex nl' ex' sz sz' rs i hi o ho h20 hlen j m
  have hl := much_loop nl ex nl' ex' sz sz' rs i hi o ho h20 hlen j o.length 0 (by omega)
  simp only [Int.natCast_zero, List.drop_zero] at hl
  have hq : decide (0 < envX rs i hi o j) = (decide (ws i rs[i].l o 0 < ws j rs[i].l o 0) && mloop j (ws j rs[i].l o 0) (ws i rs[i].l o 0) rs[i].l o) := by
    have e1 := wg_ws j rs[i].l o (0, 0)
    have e2 := wg_ws i rs[i].l o (0, 0)
    simp only at e1 e2
    unfold envX
    rw [Bool.eq_iff_iff, decide_eq_true_eq, Bool.and_eq_true, decide_eq_true_eq, e1, e2, mloop_wg]
    constructor
    · rintro ⟨a, b⟩; exact ⟨by simp at a; omega, b⟩
    · rintro ⟨a, b⟩; exact ⟨by simp; omega, b⟩
  rw [hq]
  by_cases h1 : ws i rs[i].l o 0 < ws j rs[i].l o 0
  · cases h2 : mloop j (ws j rs[i].l o 0) (ws i rs[i].l o 0) rs[i].l o
    · rw [h2] at hl; simp only [ref07_much, ref07_much.B, beqT, beqF, exF_seq, exF_region, exF_block, exF_cond, exF_ret, exF_exit, exF_skip, runL, wantL, stepL, evL, LEnv.at, putL, loadFine, loadL, cellsAt, Trk.putNew, Trk.up, Trk.touch, Trk.gives, Trk.calm, Trk.hit, opdsOf, Trk.fresh, LEnv.keep, LEnv.ofFrom, List.map_cons, List.map_nil, nbeq, nble, nblt, ofAV, ofAVs, lenL, bin_add, bin_sub, bin_mul, bin_eql, bin_neq, bin_lss, bin_leq, bin_gtr, bin_geq, natL_nat, natL_zero, natL_one, natL_two, Nat.zero_mul, List.any_cons, List.any_nil, Bool.or_false, Bool.false_or, Bool.true_or, Bool.or_true, Bool.and_true, Bool.true_and, Bool.and_false, Bool.false_and, Bool.not_true, Bool.not_false, Nat.reduceBEq, Nat.reduceEqDiff, decide_true, decide_false, cond_true, cond_false, List.filter_nil, List.filter_cons, Nat.reduceAdd, Nat.reduceLeDiff, reduceCtorEq, List.length_nil, List.length_cons, Nat.mul_one, if_true, if_false, Bool.false_eq_true, eq_self, and_true, true_and, retL, resultsL, resAllL, resOfL, List.append_nil, List.nil_append, List.cons_append, true_or, or_true, false_or, or_false, false_and, and_false, not_true_eq_false, not_false_eq_true, ne_eq, unL, trim_nil, Int.reduceEq, Int.reduceLT, Int.reduceLE, Int.natCast_zero, LV.cells, allocL, List.getElem?_cons_zero, List.getElem?_cons_succ, storeL, spliceL, List.take_zero, List.take_succ_cons, List.drop_zero, List.drop_succ_cons, List.drop_nil, List.take_nil, Nat.le_refl, Nat.reduceMul, List.set_cons_zero, List.set_cons_succ, LV.scalar, List.all_cons, List.all_nil, Nat.lt_add_one, Nat.zero_lt_one, Nat.lt_irrefl, fillL, List.length_append, foldIntL, kind_beq, pures_int, solids_int, plains_int, unders_int, scalars_int, he, h1, hl]
    · rw [h2] at hl; simp only [ref07_much, ref07_much.B, beqT, beqF, exF_seq, exF_region, exF_block, exF_cond, exF_ret, exF_exit, exF_skip, runL, wantL, stepL, evL, LEnv.at, putL, loadFine, loadL, cellsAt, Trk.putNew, Trk.up, Trk.touch, Trk.gives, Trk.calm, Trk.hit, opdsOf, Trk.fresh, LEnv.keep, LEnv.ofFrom, List.map_cons, List.map_nil, nbeq, nble, nblt, ofAV, ofAVs, lenL, bin_add, bin_sub, bin_mul, bin_eql, bin_neq, bin_lss, bin_leq, bin_gtr, bin_geq, natL_nat, natL_zero, natL_one, natL_two, Nat.zero_mul, List.any_cons, List.any_nil, Bool.or_false, Bool.false_or, Bool.true_or, Bool.or_true, Bool.and_true, Bool.true_and, Bool.and_false, Bool.false_and, Bool.not_true, Bool.not_false, Nat.reduceBEq, Nat.reduceEqDiff, decide_true, decide_false, cond_true, cond_false, List.filter_nil, List.filter_cons, Nat.reduceAdd, Nat.reduceLeDiff, reduceCtorEq, List.length_nil, List.length_cons, Nat.mul_one, if_true, if_false, Bool.false_eq_true, eq_self, and_true, true_and, retL, resultsL, resAllL, resOfL, List.append_nil, List.nil_append, List.cons_append, true_or, or_true, false_or, or_false, false_and, and_false, not_true_eq_false, not_false_eq_true, ne_eq, unL, trim_nil, Int.reduceEq, Int.reduceLT, Int.reduceLE, Int.natCast_zero, LV.cells, allocL, List.getElem?_cons_zero, List.getElem?_cons_succ, storeL, spliceL, List.take_zero, List.take_succ_cons, List.drop_zero, List.drop_succ_cons, List.drop_nil, List.take_nil, Nat.le_refl, Nat.reduceMul, List.set_cons_zero, List.set_cons_succ, LV.scalar, List.all_cons, List.all_nil, Nat.lt_add_one, Nat.zero_lt_one, Nat.lt_irrefl, fillL, List.length_append, foldIntL, kind_beq, pures_int, solids_int, plains_int, unders_int, scalars_int, he, h1, hl]
  · simp only [ref07_much, ref07_much.B, beqT, beqF, exF_seq, exF_region, exF_block, exF_cond, exF_ret, exF_exit, exF_skip, runL, wantL, stepL, evL, LEnv.at, putL, loadFine, loadL, cellsAt, Trk.putNew, Trk.up, Trk.touch, Trk.gives, Trk.calm, Trk.hit, opdsOf, Trk.fresh, LEnv.keep, LEnv.ofFrom, List.map_cons, List.map_nil, nbeq, nble, nblt, ofAV, ofAVs, lenL, bin_add, bin_sub, bin_mul, bin_eql, bin_neq, bin_lss, bin_leq, bin_gtr, bin_geq, natL_nat, natL_zero, natL_one, natL_two, Nat.zero_mul, List.any_cons, List.any_nil, Bool.or_false, Bool.false_or, Bool.true_or, Bool.or_true, Bool.and_true, Bool.true_and, Bool.and_false, Bool.false_and, Bool.not_true, Bool.not_false, Nat.reduceBEq, Nat.reduceEqDiff, decide_true, decide_false, cond_true, cond_false, List.filter_nil, List.filter_cons, Nat.reduceAdd, Nat.reduceLeDiff, reduceCtorEq, List.length_nil, List.length_cons, Nat.mul_one, if_true, if_false, Bool.false_eq_true, eq_self, and_true, true_and, retL, resultsL, resAllL, resOfL, List.append_nil, List.nil_append, List.cons_append, true_or, or_true, false_or, or_false, false_and, and_false, not_true_eq_false, not_false_eq_true, ne_eq, unL, trim_nil, Int.reduceEq, Int.reduceLT, Int.reduceLE, Int.natCast_zero, LV.cells, allocL, List.getElem?_cons_zero, List.getElem?_cons_succ, storeL, spliceL, List.take_zero, List.take_succ_cons, List.drop_zero, List.drop_succ_cons, List.drop_nil, List.take_nil, Nat.le_refl, Nat.reduceMul, List.set_cons_zero, List.set_cons_succ, LV.scalar, List.all_cons, List.all_nil, Nat.lt_add_one, Nat.zero_lt_one, Nat.lt_irrefl, fillL, List.length_append, foldIntL, kind_beq, pures_int, solids_int, plains_int, unders_int, scalars_int, he, h1]
end Go.Am.Share

/-
  What functions of chapter 07 compute, 6: pairs of finders with envy.
-/
set_option linter.unusedVariables false
set_option linter.unusedSimpArgs false
set_option maxRecDepth 10000
namespace Go.Am.Share

def eW (V : List (List Int)) (o : List Int) (i j : Nat) : Int := ws j (V.getD i []) o 0 - ws i (V.getD i []) o 0
def eX (V : List (List Int)) (o : List Int) (i j : Nat) : Int := ws j (V.getD i []) o 0 - (wg j (V.getD i []) o (0, 0)).2 - ws i (V.getD i []) o 0
structure DOk (rs : List Row) (o : List Int) : Prop where
  pos : 0 < rs.length
  le4 : rs.length ≤ 4
  len : ∀ i (h : i < rs.length), o.length = rs[i].l.length
  ok : ∀ i (h : i < rs.length), Ok20 rs[i].l
  le6 : o.length ≤ 6
theorem vals_at (rs : List Row) (i : Nat) (h : i < rs.length) : (vals rs).getD i [] = rs[i].l := by simp [vals, List.getD_eq_getElem?_getD, List.getElem?_eq_getElem h]
theorem dok_of {rs : List Row} {o : List Int} (h : divE (vals rs) o = 0) : DOk rs o := by
  unfold divE at h
  split at h
  · rename_i h1; exact absurd h h1
  · rename_i h1
    have h1 : chkV (vals rs) = 0 := by simpa using h1
    obtain ⟨k1, k2, k3, k4⟩ := chkV_ok h1
    split at h
    · omega
    · rename_i h2
      have h2 : o.length = ((vals rs).getD 0 []).length := by simpa using h2
      rw [vals_length] at k1 k2
      have hrow : ∀ i (h : i < rs.length), rs[i].l ∈ vals rs := fun i h => List.mem_map.2 ⟨rs[i], List.getElem_mem h, rfl⟩
      exact ⟨k1, k2, fun i hi => by rw [h2, (k4 _ (hrow i hi)).1], fun i hi => (k4 _ (hrow i hi)).2, by omega⟩
theorem eX_eW (V : List (List Int)) (o : List Int) (i j : Nat) (h : Ok20 (V.getD i [])) (hx : 0 < eX V o i j) : 0 < eW V o i j := by
  have := wg_bound j (V.getD i []) o (0, 0) h (by simp)
  unfold eX at hx; unfold eW; omega
theorem envy_d (nl ex nl' ex' : Bool) (sz sz' : Nat) {rs : List Row} {o : List Int} (D : DOk rs o) {i : Nat} (hi : i < rs.length) (j : Nat) (m : LMem) :
    clF LP n_share_division_envy [.agg [VL nl ex sz rs, IL nl' ex' sz' o], .int .i64 (i : Int), .int .i64 (j : Int)] m = some (.P, .tup [.int .i64 (eW (vals rs) o i j), .int .i64 (eX (vals rs) o i j)], m) := by
  rw [envy_c nl ex nl' ex' sz sz' rs i hi o (D.len i hi) (D.ok i hi) (by have := D.le6; omega) j m]
  have e1 := wg_ws j rs[i].l o (0, 0)
  have e2 := wg_ws i rs[i].l o (0, 0)
  simp only at e1 e2
  simp only [eW, eX, vals_at rs i hi, e1, e2]
theorem much_d (nl ex nl' ex' : Bool) (sz sz' : Nat) {rs : List Row} {o : List Int} (D : DOk rs o) {i : Nat} (hi : i < rs.length) (j : Nat) (m : LMem) :
    clF LP n_ref07_much [VL nl ex sz rs, IL nl' ex' sz' o, .int .i64 (i : Int), .int .i64 (j : Int)] m = some (.P, .bool (decide (0 < eX (vals rs) o i j)), m) := by
  rw [much_c nl ex nl' ex' sz sz' rs i hi o (D.len i hi) (D.ok i hi) (by have := D.le6; omega) j m]
  have e1 := wg_ws j rs[i].l o (0, 0)
  have e2 := wg_ws i rs[i].l o (0, 0)
  simp only at e1 e2
  simp only [eX, envX, vals_at rs i hi, e1, e2]
theorem envies_d (nl ex nl' ex' : Bool) (sz sz' : Nat) {rs : List Row} {o : List Int} (D : DOk rs o) {i : Nat} (hi : i < rs.length) (j : Nat) (m : LMem) :
    clF LP n_ref07_envies [VL nl ex sz rs, IL nl' ex' sz' o, .int .i64 (i : Int), .int .i64 (j : Int)] m = some (.P, .bool (decide (0 < eW (vals rs) o i j)), m) := by
  rw [envies_c nl ex nl' ex' sz sz' rs i hi o (D.len i hi) (D.ok i hi) (by have := D.le6; omega) j m]
  simp only [eW, vals_at rs i hi]
  congr 4
  rw [decide_eq_decide]
  exact ⟨fun h => by omega, fun h => by omega⟩

/-! ### Lists of pairs -/
def pcs (l : List (Nat × Nat)) : List LV := l.flatMap fun p => [.int .i64 (p.1 : Int), .int .i64 (p.2 : Int)]
theorem pcs_snoc (l : List (Nat × Nat)) (i j : Nat) : pcs (l ++ [(i, j)]) = pcs l ++ [.int .i64 (i : Int), .int .i64 (j : Int)] := by simp [pcs]
theorem pcs_length (l : List (Nat × Nat)) : (pcs l).length = l.length * 2 := by
  induction l with
  | nil => rfl
  | cons a r ih => simp [pcs] at ih ⊢; omega
theorem pures_pcs (l : List (Nat × Nat)) : LV.pures (pcs l) = true := by
  induction l with
  | nil => rfl
  | cons a r ih => exact (by simp [LV.pure, LV.pures]; exact ih : LV.pures (.int .i64 (a.1 : Int) :: .int .i64 (a.2 : Int) :: pcs r) = true)
def inner (P : Nat → Nat → Bool) (i k n : Nat) : List (Nat × Nat) := ((List.range' k n).filter (P i)).map fun j => (i, j)
theorem inner_succ (P : Nat → Nat → Bool) (i k n : Nat) : inner P i k (n + 1) = (if P i k then [(i, k)] else []) ++ inner P i (k + 1) n := by
  unfold inner
  rw [List.range'_succ, List.filter_cons]
  split <;> simp
def outer (P : Nat → Nat → Bool) (N k n : Nat) : List (Nat × Nat) := (List.range' k n).flatMap fun i => inner P i 0 N
theorem outer_succ (P : Nat → Nat → Bool) (N k n : Nat) : outer P N k (n + 1) = inner P k 0 N ++ outer P N (k + 1) n := by
  unfold outer
  rw [List.range'_succ, List.flatMap_cons]
def PM2 (d : LBlk) (E M : List (Nat × Nat)) : LMem := d :: (GMc E.length (pcs E) ++ GMc M.length (pcs M))
theorem PM2_0 (d : LBlk) (E M : List (Nat × Nat)) : (PM2 d E M)[0]? = some d := rfl
theorem PM2_E (d : LBlk) (E M : List (Nat × Nat)) (i j : Nat) (hE : E.length < 1000000) (h : E ≠ [] ∨ M = []) :
    appendL (PM2 d E M) 2 16 (GVc 1 2 E.length) (.lst false true 2 1 [.int .i64 (i : Int), .int .i64 (j : Int)]) = some (GVc 1 2 (E ++ [(i, j)]).length, PM2 d (E ++ [(i, j)]) M) := by
  have := append_c [d] (GMc M.length (pcs M)) 2 16 E.length (pcs E) [.int .i64 (i : Int), .int .i64 (j : Int)] true (pcs_length E) rfl rfl (by omega) (by omega) (by
    rcases h with c | rfl
    · exact .inl (by simpa using c)
    · exact .inr rfl)
  simpa [PM2, pcs_snoc] using this
theorem PM2_M (d : LBlk) (E M : List (Nat × Nat)) (i j : Nat) (hM : M.length < 1000000) (h : E ≠ []) :
    appendL (PM2 d E M) 2 16 (GVc 2 2 M.length) (.lst false true 2 1 [.int .i64 (i : Int), .int .i64 (j : Int)]) = some (GVc 2 2 (M ++ [(i, j)]).length, PM2 d E (M ++ [(i, j)])) := by
  have hE : E.length ≠ 0 := by simpa using h
  have := append_c (d :: GMc E.length (pcs E)) [] 2 16 M.length (pcs M) [.int .i64 (i : Int), .int .i64 (j : Int)] true (pcs_length M) rfl rfl (by omega) (by omega) (.inr rfl)
  simpa [PM2, pcs_snoc, GMc, hE] using this

theorem pairs_inner (nl ex nl' ex' : Bool) (sz sz' : Nat) {rs : List Row} {o : List Int} (D : DOk rs o) {i : Nat} (hi : i < rs.length) (n : Nat) : ∀ (k : Nat) (E M : List (Nat × Nat)), k + n = rs.length → E.length + n ≤ 10000 → M.length + n ≤ 10000 → (M ≠ [] → E ≠ []) →
    exF LP share_division_pairs.L0 [(1, .ptr 0 0 2), (2, GVc 1 2 E.length), (3, GVc 2 2 M.length), (4, .int .i64 (i : Int)), (10, .int .i64 (rs.length : Int)), (11, .int .i64 (i : Int)), (16, .int .i64 (rs.length : Int)), (17, .int .i64 (k : Int))] (PM2 ⟨[VL nl ex sz rs, IL nl' ex' sz' o], true⟩ E M) =
      some (.exit 2, [(1, .ptr 0 0 2), (2, GVc 1 2 (E ++ inner (fun i j => decide (0 < eW (vals rs) o i j)) i k n).length), (3, GVc 2 2 (M ++ inner (fun i j => decide (0 < eX (vals rs) o i j)) i k n).length), (10, .int .i64 (rs.length : Int)), (11, .int .i64 (i : Int))],
        PM2 ⟨[VL nl ex sz rs, IL nl' ex' sz' o], true⟩ (E ++ inner (fun i j => decide (0 < eW (vals rs) o i j)) i k n) (M ++ inner (fun i j => decide (0 < eX (vals rs) o i j)) i k n)) := by
  have h4 := D.le4
  induction n with
  | zero =>
    intro k E M hk hE hM hEM
    rw [share_division_pairs.L0_eq]
    simp only [share_division_pairs.B0, beqT, beqF, exF_seq, exF_region, exF_block, exF_cond, exF_ret, exF_exit, exF_skip, runL, wantL, stepL, evL, LEnv.at, putL, loadFine, loadL, cellsAt, Trk.putNew, Trk.up, Trk.touch, Trk.gives, Trk.calm, Trk.hit, opdsOf, Trk.fresh, LEnv.keep, LEnv.ofFrom, List.map_cons, List.map_nil, nbeq, nble, nblt, ofAV, ofAVs, lenL, bin_add, bin_sub, bin_mul, bin_eql, bin_neq, bin_lss, bin_leq, bin_gtr, bin_geq, natL_nat, natL_zero, natL_one, natL_two, Nat.zero_mul, List.any_cons, List.any_nil, Bool.or_false, Bool.false_or, Bool.true_or, Bool.or_true, Bool.and_true, Bool.true_and, Bool.and_false, Bool.false_and, Bool.not_true, Bool.not_false, Nat.reduceBEq, Nat.reduceEqDiff, decide_true, decide_false, cond_true, cond_false, List.filter_nil, List.filter_cons, Nat.reduceAdd, Nat.reduceLeDiff, reduceCtorEq, List.length_nil, List.length_cons, Nat.mul_one, if_true, if_false, Bool.false_eq_true, eq_self, and_true, true_and, retL, resultsL, resAllL, resOfL, List.append_nil, List.nil_append, List.cons_append, true_or, or_true, false_or, or_false, false_and, and_false, not_true_eq_false, not_false_eq_true, ne_eq, unL, trim_nil, views_pures, LV.pures, LV.pure, freeze, Nat.reduceDiv, Int.reduceEq, Int.reduceLT, Int.reduceLE, Int.natCast_zero, LV.cells, allocL, List.getElem?_cons_zero, List.getElem?_cons_succ, storeL, spliceL, List.take_zero, List.take_succ_cons, List.drop_zero, List.drop_succ_cons, List.drop_nil, List.take_nil, Nat.le_refl, Nat.reduceMul, List.set_cons_zero, List.set_cons_succ, LV.scalar, List.all_cons, List.all_nil, Nat.lt_add_one, Nat.zero_lt_one, Nat.lt_irrefl, fillL, List.length_append, foldIntL, kind_beq, pures_int, solids_int, plains_int, unders_int, scalars_int, show ¬ ((k : Int) < (rs.length : Int)) by omega, inner, List.range'_zero]
  | succ n ih =>
    intro k E M hk hE hM hEM
    have hk2 : (k : Int) < (rs.length : Int) := by omega
    rw [share_division_pairs.L0_eq, inner_succ, inner_succ]
    have he := fun m => envy_d nl ex nl' ex' sz sz' D hi k m
    have ws := wrap_succ (show k + 1 < 9223372036854775808 by omega)
    by_cases h1 : 0 < eW (vals rs) o i k
    · by_cases h2 : 0 < eX (vals rs) o i k
      · have ih := ih (k + 1) (E ++ [(i, k)]) (M ++ [(i, k)]) (by omega) (by simp; omega) (by simp; omega) (by simp)
        have a1 := PM2_E ⟨[VL nl ex sz rs, IL nl' ex' sz' o], true⟩ E M i k (by omega) (by
          by_cases c : M = []
          · exact .inr c
          · exact .inl (hEM c))
        have a2 := PM2_M ⟨[VL nl ex sz rs, IL nl' ex' sz' o], true⟩ (E ++ [(i, k)]) M i k (by omega) (by simp)
        simp only [share_division_pairs.B0, beqT, beqF, exF_seq, exF_region, exF_block, exF_cond, exF_ret, exF_exit, exF_skip, runL, wantL, stepL, evL, LEnv.at, putL, loadFine, loadL, cellsAt, Trk.putNew, Trk.up, Trk.touch, Trk.gives, Trk.calm, Trk.hit, opdsOf, Trk.fresh, LEnv.keep, LEnv.ofFrom, List.map_cons, List.map_nil, nbeq, nble, nblt, ofAV, ofAVs, lenL, bin_add, bin_sub, bin_mul, bin_eql, bin_neq, bin_lss, bin_leq, bin_gtr, bin_geq, natL_nat, natL_zero, natL_one, natL_two, Nat.zero_mul, List.any_cons, List.any_nil, Bool.or_false, Bool.false_or, Bool.true_or, Bool.or_true, Bool.and_true, Bool.true_and, Bool.and_false, Bool.false_and, Bool.not_true, Bool.not_false, Nat.reduceBEq, Nat.reduceEqDiff, decide_true, decide_false, cond_true, cond_false, List.filter_nil, List.filter_cons, Nat.reduceAdd, Nat.reduceLeDiff, reduceCtorEq, List.length_nil, List.length_cons, Nat.mul_one, if_true, if_false, Bool.false_eq_true, eq_self, and_true, true_and, retL, resultsL, resAllL, resOfL, List.append_nil, List.nil_append, List.cons_append, true_or, or_true, false_or, or_false, false_and, and_false, not_true_eq_false, not_false_eq_true, ne_eq, unL, trim_nil, views_pures, LV.pures, LV.pure, freeze, Nat.reduceDiv, Int.reduceEq, Int.reduceLT, Int.reduceLE, Int.natCast_zero, LV.cells, allocL, List.getElem?_cons_zero, List.getElem?_cons_succ, storeL, spliceL, List.take_zero, List.take_succ_cons, List.drop_zero, List.drop_succ_cons, List.drop_nil, List.take_nil, Nat.le_refl, Nat.reduceMul, List.set_cons_zero, List.set_cons_succ, LV.scalar, List.all_cons, List.all_nil, Nat.lt_add_one, Nat.zero_lt_one, Nat.lt_irrefl, fillL, foldIntL, kind_beq, pures_int, solids_int, plains_int, unders_int, scalars_int, hk2, PM2_0, he, h1, h2, ws, ih, a1, a2, List.append_assoc]
      · have ih := ih (k + 1) (E ++ [(i, k)]) M (by omega) (by simp; omega) (by omega) (by simp)
        have a1 := PM2_E ⟨[VL nl ex sz rs, IL nl' ex' sz' o], true⟩ E M i k (by omega) (by
          by_cases c : M = []
          · exact .inr c
          · exact .inl (hEM c))
        simp only [share_division_pairs.B0, beqT, beqF, exF_seq, exF_region, exF_block, exF_cond, exF_ret, exF_exit, exF_skip, runL, wantL, stepL, evL, LEnv.at, putL, loadFine, loadL, cellsAt, Trk.putNew, Trk.up, Trk.touch, Trk.gives, Trk.calm, Trk.hit, opdsOf, Trk.fresh, LEnv.keep, LEnv.ofFrom, List.map_cons, List.map_nil, nbeq, nble, nblt, ofAV, ofAVs, lenL, bin_add, bin_sub, bin_mul, bin_eql, bin_neq, bin_lss, bin_leq, bin_gtr, bin_geq, natL_nat, natL_zero, natL_one, natL_two, Nat.zero_mul, List.any_cons, List.any_nil, Bool.or_false, Bool.false_or, Bool.true_or, Bool.or_true, Bool.and_true, Bool.true_and, Bool.and_false, Bool.false_and, Bool.not_true, Bool.not_false, Nat.reduceBEq, Nat.reduceEqDiff, decide_true, decide_false, cond_true, cond_false, List.filter_nil, List.filter_cons, Nat.reduceAdd, Nat.reduceLeDiff, reduceCtorEq, List.length_nil, List.length_cons, Nat.mul_one, if_true, if_false, Bool.false_eq_true, eq_self, and_true, true_and, retL, resultsL, resAllL, resOfL, List.append_nil, List.nil_append, List.cons_append, true_or, or_true, false_or, or_false, false_and, and_false, not_true_eq_false, not_false_eq_true, ne_eq, unL, trim_nil, views_pures, LV.pures, LV.pure, freeze, Nat.reduceDiv, Int.reduceEq, Int.reduceLT, Int.reduceLE, Int.natCast_zero, LV.cells, allocL, List.getElem?_cons_zero, List.getElem?_cons_succ, storeL, spliceL, List.take_zero, List.take_succ_cons, List.drop_zero, List.drop_succ_cons, List.drop_nil, List.take_nil, Nat.le_refl, Nat.reduceMul, List.set_cons_zero, List.set_cons_succ, LV.scalar, List.all_cons, List.all_nil, Nat.lt_add_one, Nat.zero_lt_one, Nat.lt_irrefl, fillL, foldIntL, kind_beq, pures_int, solids_int, plains_int, unders_int, scalars_int, hk2, PM2_0, he, h1, h2, ws, ih, a1, List.append_assoc]
    · have h2 : ¬ 0 < eX (vals rs) o i k := fun c => h1 (eX_eW _ _ _ _ (by rw [vals_at rs i hi]; exact D.ok i hi) c)
      have ih := ih (k + 1) E M (by omega) (by omega) (by omega) hEM
      simp only [share_division_pairs.B0, beqT, beqF, exF_seq, exF_region, exF_block, exF_cond, exF_ret, exF_exit, exF_skip, runL, wantL, stepL, evL, LEnv.at, putL, loadFine, loadL, cellsAt, Trk.putNew, Trk.up, Trk.touch, Trk.gives, Trk.calm, Trk.hit, opdsOf, Trk.fresh, LEnv.keep, LEnv.ofFrom, List.map_cons, List.map_nil, nbeq, nble, nblt, ofAV, ofAVs, lenL, bin_add, bin_sub, bin_mul, bin_eql, bin_neq, bin_lss, bin_leq, bin_gtr, bin_geq, natL_nat, natL_zero, natL_one, natL_two, Nat.zero_mul, List.any_cons, List.any_nil, Bool.or_false, Bool.false_or, Bool.true_or, Bool.or_true, Bool.and_true, Bool.true_and, Bool.and_false, Bool.false_and, Bool.not_true, Bool.not_false, Nat.reduceBEq, Nat.reduceEqDiff, decide_true, decide_false, cond_true, cond_false, List.filter_nil, List.filter_cons, Nat.reduceAdd, Nat.reduceLeDiff, reduceCtorEq, List.length_nil, List.length_cons, Nat.mul_one, if_true, if_false, Bool.false_eq_true, eq_self, and_true, true_and, retL, resultsL, resAllL, resOfL, List.append_nil, List.nil_append, List.cons_append, true_or, or_true, false_or, or_false, false_and, and_false, not_true_eq_false, not_false_eq_true, ne_eq, unL, trim_nil, views_pures, LV.pures, LV.pure, freeze, Nat.reduceDiv, Int.reduceEq, Int.reduceLT, Int.reduceLE, Int.natCast_zero, LV.cells, allocL, List.getElem?_cons_zero, List.getElem?_cons_succ, storeL, spliceL, List.take_zero, List.take_succ_cons, List.drop_zero, List.drop_succ_cons, List.drop_nil, List.take_nil, Nat.le_refl, Nat.reduceMul, List.set_cons_zero, List.set_cons_succ, LV.scalar, List.all_cons, List.all_nil, Nat.lt_add_one, Nat.zero_lt_one, Nat.lt_irrefl, fillL, List.length_append, foldIntL, kind_beq, pures_int, solids_int, plains_int, unders_int, scalars_int, hk2, PM2_0, he, h1, h2, ws, ih, List.take_of_length_le]
theorem pairs_outer (nl ex nl' ex' : Bool) (sz sz' : Nat) {rs : List Row} {o : List Int} (D : DOk rs o) (n : Nat) : ∀ (k : Nat) (E M : List (Nat × Nat)), k + n = rs.length → E.length + 4 * n ≤ 1000 → M.length + 4 * n ≤ 1000 → (M ≠ [] → E ≠ []) →
    exF LP share_division_pairs.L1 [(1, .ptr 0 0 2), (2, GVc 1 2 E.length), (3, GVc 2 2 M.length), (10, .int .i64 (rs.length : Int)), (11, .int .i64 (k : Int))] (PM2 ⟨[VL nl ex sz rs, IL nl' ex' sz' o], true⟩ E M) =
      some (.exit 0, [(2, GVc 1 2 (E ++ outer (fun i j => decide (0 < eW (vals rs) o i j)) rs.length k n).length), (3, GVc 2 2 (M ++ outer (fun i j => decide (0 < eX (vals rs) o i j)) rs.length k n).length)],
        PM2 ⟨[VL nl ex sz rs, IL nl' ex' sz' o], true⟩ (E ++ outer (fun i j => decide (0 < eW (vals rs) o i j)) rs.length k n) (M ++ outer (fun i j => decide (0 < eX (vals rs) o i j)) rs.length k n)) := by
  have h4 := D.le4
  have hlen : ∀ (P : Nat → Nat → Bool) (i : Nat), (inner P i 0 rs.length).length ≤ 4 := fun P i => by
    unfold inner
    rw [List.length_map]
    have := List.length_filter_le (P i) (List.range' 0 rs.length)
    simp at this; omega
  induction n with
  | zero =>
    intro k E M hk hE hM hEM
    rw [share_division_pairs.L1_eq]
    simp only [share_division_pairs.B1, beqT, beqF, exF_seq, exF_region, exF_block, exF_cond, exF_ret, exF_exit, exF_skip, runL, wantL, stepL, evL, LEnv.at, putL, loadFine, loadL, cellsAt, Trk.putNew, Trk.up, Trk.touch, Trk.gives, Trk.calm, Trk.hit, opdsOf, Trk.fresh, LEnv.keep, LEnv.ofFrom, List.map_cons, List.map_nil, nbeq, nble, nblt, ofAV, ofAVs, lenL, bin_add, bin_sub, bin_mul, bin_eql, bin_neq, bin_lss, bin_leq, bin_gtr, bin_geq, natL_nat, natL_zero, natL_one, natL_two, Nat.zero_mul, List.any_cons, List.any_nil, Bool.or_false, Bool.false_or, Bool.true_or, Bool.or_true, Bool.and_true, Bool.true_and, Bool.and_false, Bool.false_and, Bool.not_true, Bool.not_false, Nat.reduceBEq, Nat.reduceEqDiff, decide_true, decide_false, cond_true, cond_false, List.filter_nil, List.filter_cons, Nat.reduceAdd, Nat.reduceLeDiff, reduceCtorEq, List.length_nil, List.length_cons, Nat.mul_one, if_true, if_false, Bool.false_eq_true, eq_self, and_true, true_and, retL, resultsL, resAllL, resOfL, List.append_nil, List.nil_append, List.cons_append, true_or, or_true, false_or, or_false, false_and, and_false, not_true_eq_false, not_false_eq_true, ne_eq, unL, trim_nil, views_pures, LV.pures, LV.pure, freeze, Nat.reduceDiv, Int.reduceEq, Int.reduceLT, Int.reduceLE, Int.natCast_zero, LV.cells, allocL, List.getElem?_cons_zero, List.getElem?_cons_succ, storeL, spliceL, List.take_zero, List.take_succ_cons, List.drop_zero, List.drop_succ_cons, List.drop_nil, List.take_nil, Nat.le_refl, Nat.reduceMul, List.set_cons_zero, List.set_cons_succ, LV.scalar, List.all_cons, List.all_nil, Nat.lt_add_one, Nat.zero_lt_one, Nat.lt_irrefl, fillL, List.length_append, foldIntL, kind_beq, pures_int, solids_int, plains_int, unders_int, scalars_int, show ¬ ((k : Int) < (rs.length : Int)) by omega, outer, List.range'_zero, List.flatMap_nil]
  | succ n ih =>
    intro k E M hk hE hM hEM
    have hk2 : (k : Int) < (rs.length : Int) := by omega
    have hk3 : k < rs.length := by omega
    rw [share_division_pairs.L1_eq, outer_succ, outer_succ]
    have ws := wrap_succ (show k + 1 < 9223372036854775808 by omega)
    have hin := pairs_inner nl ex nl' ex' sz sz' D hk3 rs.length 0 E M (by omega) (by omega) (by omega) hEM
    have l1 := hlen (fun i j => decide (0 < eW (vals rs) o i j)) k
    have l2 := hlen (fun i j => decide (0 < eX (vals rs) o i j)) k
    have hsub : inner (fun i j => decide (0 < eX (vals rs) o i j)) k 0 rs.length ≠ [] → inner (fun i j => decide (0 < eW (vals rs) o i j)) k 0 rs.length ≠ [] := by
      intro c d
      apply c
      unfold inner at d ⊢
      rw [List.map_eq_nil_iff, List.filter_eq_nil_iff] at d ⊢
      intro j hj
      have := d j hj
      simp only [decide_eq_true_eq] at this ⊢
      exact fun c => this (eX_eW _ _ _ _ (by rw [vals_at rs k hk3]; exact D.ok k hk3) c)
    generalize inner (fun i j => decide (0 < eW (vals rs) o i j)) k 0 rs.length = A at *
    generalize inner (fun i j => decide (0 < eX (vals rs) o i j)) k 0 rs.length = B at *
    have ih := ih (k + 1) (E ++ A) (M ++ B) (by omega) (by simp; omega) (by simp; omega) (by
      intro c d
      rw [List.append_eq_nil_iff] at d
      apply c
      rw [List.append_eq_nil_iff]
      constructor
      · exact Classical.byContradiction fun e => hEM e d.1
      · exact Classical.byContradiction fun e => hsub e d.2)
    simp only [Int.natCast_zero] at hin
    simp only [share_division_pairs.B1, beqT, beqF, exF_seq, exF_region, exF_block, exF_cond, exF_ret, exF_exit, exF_skip, runL, wantL, stepL, evL, LEnv.at, putL, loadFine, loadL, cellsAt, Trk.putNew, Trk.up, Trk.touch, Trk.gives, Trk.calm, Trk.hit, opdsOf, Trk.fresh, LEnv.keep, LEnv.ofFrom, List.map_cons, List.map_nil, nbeq, nble, nblt, ofAV, ofAVs, lenL, bin_add, bin_sub, bin_mul, bin_eql, bin_neq, bin_lss, bin_leq, bin_gtr, bin_geq, natL_nat, natL_zero, natL_one, natL_two, Nat.zero_mul, List.any_cons, List.any_nil, Bool.or_false, Bool.false_or, Bool.true_or, Bool.or_true, Bool.and_true, Bool.true_and, Bool.and_false, Bool.false_and, Bool.not_true, Bool.not_false, Nat.reduceBEq, Nat.reduceEqDiff, decide_true, decide_false, cond_true, cond_false, List.filter_nil, List.filter_cons, Nat.reduceAdd, Nat.reduceLeDiff, reduceCtorEq, List.length_nil, List.length_cons, Nat.mul_one, if_true, if_false, Bool.false_eq_true, eq_self, and_true, true_and, retL, resultsL, resAllL, resOfL, List.append_nil, List.nil_append, List.cons_append, true_or, or_true, false_or, or_false, false_and, and_false, not_true_eq_false, not_false_eq_true, ne_eq, unL, trim_nil, views_pures, LV.pures, LV.pure, freeze, Nat.reduceDiv, Int.reduceEq, Int.reduceLT, Int.reduceLE, Int.natCast_zero, LV.cells, allocL, List.getElem?_cons_zero, List.getElem?_cons_succ, storeL, spliceL, List.take_zero, List.take_succ_cons, List.drop_zero, List.drop_succ_cons, List.drop_nil, List.take_nil, Nat.le_refl, Nat.reduceMul, List.set_cons_zero, List.set_cons_succ, LV.scalar, List.all_cons, List.all_nil, Nat.lt_add_one, Nat.zero_lt_one, Nat.lt_irrefl, fillL, foldIntL, kind_beq, pures_int, solids_int, plains_int, unders_int, scalars_int, hk2, PM2_0, hin, ws, ih, List.append_assoc]
end Go.Am.Share

