/-
  The law 'ShareFinds' over the list machine.
-/
import Derived.Test.YtcckhkcchpfdoaaShareC34
import Derived.Test.YtcckhkcchpfdoaaShareC12
set_option linter.unusedVariables false
set_option linter.unusedSimpArgs false
set_option maxRecDepth 10000
namespace Go.Am.Share
theorem mostF_length (V : List (List Int)) (t : Nat) : ∀ (P : List (List Int)) (b : List Int), (∀ q ∈ P, q.length = t) → b.length = t → (mostF V b P).length = t
  | [], b, _, h => h
  | x :: xs, b, hp, h => by
    rw [mostF]
    split
    · exact mostF_length V t xs x (fun q hq => hp q (by simp [hq])) (hp x (by simp))
    · exact mostF_length V t xs b (fun q hq => hp q (by simp [hq])) h
theorem mostP_c (nl ex : Bool) (sz : Nat) (rs : List Row) (hl : rs.length < 1000000) (hr : ∀ r ∈ rs, r.l.length < 1000000) : ∃ a b c, ∀ m, clF LP n_share_Most [VL nl ex sz rs] m = some (.P, .tup [IL a b c (mostV (vals rs)), .int .i64 (chkV (vals rs))], m) := by
  have hc := fun m => check_c nl ex sz rs hl hr m
  unfold mostV
  by_cases h1 : chkV (vals rs) = 0
  · have D := vok_of h1
    rw [if_pos h1, vals_length]
    have hm := allD_mem rs.length ((vals rs).getD 0 []).length
    obtain ⟨m', b, r, n, hA, e1, e2, e3⟩ := each_most nl ex sz D
    rw [hA] at hm ⊢
    have hq := mostF_length (vals rs) ((vals rs).getD 0 []).length r b (fun q hq => (hm q (by simp [hq])).1) (hm b (by simp)).1
    show ∃ a b' c, ∀ m, clF LP n_share_Most [VL nl ex sz rs] m = some (.P, .tup [IL a b' c (mostF (vals rs) b r), .int .i64 (chkV (vals rs))], m)
    rw [h1]
    generalize mostF (vals rs) b r = q at *
    generalize ((vals rs).getD 0 []).length = L at *
    by_cases h : L = 0
    · subst h
      obtain rfl : q = [] := List.length_eq_zero_iff.1 hq
      simp only [CV, if_true] at e2
      refine ⟨false, true, 0, fun m => call_P lp_share_Most rfl (by simp [LV.pures, LV.pure]) (m1 := m') ?_ (by simp [LV.pures, LV.pure]) m⟩
      simp only [share_Most, share_Most.B, beqT, beqF, exF_seq, exF_region, exF_block, exF_cond, exF_ret, exF_exit, exF_skip, runL, wantL, stepL, evL, LEnv.at, putL, loadFine, loadL, cellsAt, Trk.putNew, Trk.up, Trk.touch, Trk.gives, Trk.calm, Trk.hit, opdsOf, Trk.fresh, LEnv.keep, LEnv.ofFrom, List.map_cons, List.map_nil, nbeq, nble, nblt, ofAV, ofAVs, lenL, bin_add, bin_sub, bin_mul, bin_eql, bin_neq, bin_lss, bin_leq, bin_gtr, bin_geq, natL_nat, natL_zero, natL_one, natL_two, Nat.zero_mul, List.any_cons, List.any_nil, Bool.or_false, Bool.false_or, Bool.true_or, Bool.or_true, Bool.and_true, Bool.true_and, Bool.and_false, Bool.false_and, Bool.not_true, Bool.not_false, Nat.reduceBEq, Nat.reduceEqDiff, decide_true, decide_false, cond_true, cond_false, List.filter_nil, List.filter_cons, Nat.reduceAdd, Nat.reduceLeDiff, reduceCtorEq, List.length_nil, List.length_cons, Nat.mul_one, if_true, if_false, Bool.false_eq_true, eq_self, and_true, true_and, retL, resultsL, resAllL, resOfL, List.append_nil, List.nil_append, List.cons_append, true_or, or_true, false_or, or_false, false_and, and_false, not_true_eq_false, not_false_eq_true, ne_eq, unL, trim_nil, views_pures, LV.pures, LV.pure, freeze, Nat.reduceDiv, Int.reduceEq, Int.reduceLT, Int.reduceLE, Int.natCast_zero, LV.cells, allocL, List.getElem?_cons_zero, List.getElem?_cons_succ, storeL, spliceL, List.take_zero, List.take_succ_cons, List.drop_zero, List.drop_succ_cons, List.drop_nil, List.take_nil, Nat.le_refl, Nat.reduceMul, List.set_cons_zero, List.set_cons_succ, LV.scalar, List.all_cons, List.all_nil, Nat.lt_add_one, Nat.zero_lt_one, Nat.lt_irrefl, fillL, List.length_append, foldIntL, kind_beq, pures_int, solids_int, plains_int, unders_int, scalars_int, hc, h1, e1, e2]
      rfl
    · have f3 := e3 h
      simp only [CV, if_neg h] at e2
      have hv := view_slq m' n L 1 q true 0 f3 hq
      refine ⟨false, Nat.beq 1 0, 1, fun m => call_Pv lp_share_Most rfl (by simp [LV.pures, LV.pure]) ?_ hv m⟩
      simp only [share_Most, share_Most.B, beqT, beqF, exF_seq, exF_region, exF_block, exF_cond, exF_ret, exF_exit, exF_skip, runL, wantL, stepL, evL, LEnv.at, putL, loadFine, loadL, cellsAt, Trk.putNew, Trk.up, Trk.touch, Trk.gives, Trk.calm, Trk.hit, opdsOf, Trk.fresh, LEnv.keep, LEnv.ofFrom, List.map_cons, List.map_nil, nbeq, nble, nblt, ofAV, ofAVs, lenL, bin_add, bin_sub, bin_mul, bin_eql, bin_neq, bin_lss, bin_leq, bin_gtr, bin_geq, natL_nat, natL_zero, natL_one, natL_two, Nat.zero_mul, List.any_cons, List.any_nil, Bool.or_false, Bool.false_or, Bool.true_or, Bool.or_true, Bool.and_true, Bool.true_and, Bool.and_false, Bool.false_and, Bool.not_true, Bool.not_false, Nat.reduceBEq, Nat.reduceEqDiff, decide_true, decide_false, cond_true, cond_false, List.filter_nil, List.filter_cons, Nat.reduceAdd, Nat.reduceLeDiff, reduceCtorEq, List.length_nil, List.length_cons, Nat.mul_one, if_true, if_false, Bool.false_eq_true, eq_self, and_true, true_and, retL, resultsL, resAllL, resOfL, List.append_nil, List.nil_append, List.cons_append, true_or, or_true, false_or, or_false, false_and, and_false, not_true_eq_false, not_false_eq_true, ne_eq, unL, trim_nil, views_pures, LV.pures, LV.pure, freeze, Nat.reduceDiv, Int.reduceEq, Int.reduceLT, Int.reduceLE, Int.natCast_zero, LV.cells, allocL, List.getElem?_cons_zero, List.getElem?_cons_succ, storeL, spliceL, List.take_zero, List.take_succ_cons, List.drop_zero, List.drop_succ_cons, List.drop_nil, List.take_nil, Nat.le_refl, Nat.reduceMul, List.set_cons_zero, List.set_cons_succ, LV.scalar, List.all_cons, List.all_nil, Nat.lt_add_one, Nat.zero_lt_one, Nat.lt_irrefl, fillL, List.length_append, foldIntL, kind_beq, pures_int, solids_int, plains_int, unders_int, scalars_int, hc, h1, e1, e2]
  · rw [if_neg h1]
    refine ⟨true, true, 0, fun m => call_P lp_share_Most rfl (by simp [LV.pures, LV.pure]) (m1 := []) ?_ (by simp [LV.pures, LV.pure]) m⟩
    simp only [share_Most, share_Most.B, beqT, beqF, exF_seq, exF_region, exF_block, exF_cond, exF_ret, exF_exit, exF_skip, runL, wantL, stepL, evL, LEnv.at, putL, loadFine, loadL, cellsAt, Trk.putNew, Trk.up, Trk.touch, Trk.gives, Trk.calm, Trk.hit, opdsOf, Trk.fresh, LEnv.keep, LEnv.ofFrom, List.map_cons, List.map_nil, nbeq, nble, nblt, ofAV, ofAVs, lenL, bin_add, bin_sub, bin_mul, bin_eql, bin_neq, bin_lss, bin_leq, bin_gtr, bin_geq, natL_nat, natL_zero, natL_one, natL_two, Nat.zero_mul, List.any_cons, List.any_nil, Bool.or_false, Bool.false_or, Bool.true_or, Bool.or_true, Bool.and_true, Bool.true_and, Bool.and_false, Bool.false_and, Bool.not_true, Bool.not_false, Nat.reduceBEq, Nat.reduceEqDiff, decide_true, decide_false, cond_true, cond_false, List.filter_nil, List.filter_cons, Nat.reduceAdd, Nat.reduceLeDiff, reduceCtorEq, List.length_nil, List.length_cons, Nat.mul_one, if_true, if_false, Bool.false_eq_true, eq_self, and_true, true_and, retL, resultsL, resAllL, resOfL, List.append_nil, List.nil_append, List.cons_append, true_or, or_true, false_or, or_false, false_and, and_false, not_true_eq_false, not_false_eq_true, ne_eq, unL, trim_nil, views_pures, LV.pures, LV.pure, freeze, Nat.reduceDiv, Int.reduceEq, Int.reduceLT, Int.reduceLE, Int.natCast_zero, LV.cells, allocL, List.getElem?_cons_zero, List.getElem?_cons_succ, storeL, spliceL, List.take_zero, List.take_succ_cons, List.drop_zero, List.drop_succ_cons, List.drop_nil, List.take_nil, Nat.le_refl, Nat.reduceMul, List.set_cons_zero, List.set_cons_succ, LV.scalar, List.all_cons, List.all_nil, Nat.lt_add_one, Nat.zero_lt_one, Nat.lt_irrefl, fillL, List.length_append, foldIntL, kind_beq, pures_int, solids_int, plains_int, unders_int, scalars_int, hc, h1]
    rfl
theorem freeV_len (V : List (List Int)) : (freeV V).length < 1000000 := by
  unfold freeV
  by_cases h : chkV V = 0
  · rw [if_pos h]
    have h6 := (chkV_ok h).2.2.1
    cases hf : fairs V with
    | nil => simp
    | cons q r =>
      have hq : q ∈ fairs V := by rw [hf]; simp
      have := (allD_mem _ _ q (List.mem_filter.1 hq).1).1
      simp; omega
  · rw [if_neg h]; simp
theorem mostV_len (V : List (List Int)) : (mostV V).length < 1000000 := by
  unfold mostV
  by_cases h : chkV V = 0
  · rw [if_pos h]
    have h6 := (chkV_ok h).2.2.1
    have hm := allD_mem V.length (V.getD 0 []).length
    cases hA : allD V.length (V.getD 0 []).length with
    | nil => simp
    | cons b r =>
      rw [hA] at hm
      have := mostF_length V (V.getD 0 []).length r b (fun q hq => (hm q (by simp [hq])).1) (hm b (by simp)).1
      show (mostF V b r).length < 1000000
      omega
  · rw [if_neg h]; simp
theorem betterV_len (V : List (List Int)) (o : List Int) : (betterV V o).length < 1000000 := by
  unfold betterV
  by_cases h : divE V o = 0
  · rw [if_pos h]
    have h6 : (V.getD 0 []).length ≤ 6 := by
      unfold divE at h
      split at h
      · rename_i c; exact absurd h c
      · rename_i c; exact (chkV_ok (by simpa using c)).2.2.1
    cases hf : (allD V.length (V.getD 0 []).length).find? fun q => better V q o with
    | none => simp
    | some q =>
      have := (allD_mem _ _ q (List.mem_of_find?_eq_some hf)).1
      simp only [Option.getD_some]; omega
  · rw [if_neg h]; simp
theorem finds_law (nl nl' : Bool) (rs : List Row) (o : List Int) (hnl : nl' = true → o = []) : clF LP n_law07_ShareFinds [VL nl false 1 rs, IL nl' false 1 o] [] = some (.P, .bool true, []) := by
  refine call_P lp_law07_ShareFinds rfl (by simp [LV.pures, LV.pure]) (m1 := []) ?_ rfl []
  cases h : largeB rs o
  · have I := in_of h hnl
    obtain ⟨a1, a2, a3, hF⟩ := freeP_c nl false 1 rs I.hl I.hr
    obtain ⟨b1, b2, b3, hG⟩ := rfree_c nl false 1 rs I.hl I.hr
    obtain ⟨c1, c2, c3, hM⟩ := mostP_c nl false 1 rs I.hl I.hr
    obtain ⟨d1, d2, d3, hN⟩ := mostR_c nl false 1 rs I.hl I.hr
    obtain ⟨e1, e2, e3, hB⟩ := betterP_c nl false nl' false 1 1 rs o I
    obtain ⟨f1, f2, f3, hC⟩ := betterR_c nl false nl' false 1 1 rs o I
    simp only [law07_ShareFinds, law07_ShareFinds.B, beqT, beqF, exF_seq, exF_region, exF_block, exF_cond, exF_ret, exF_exit, exF_skip, runL, wantL, stepL, evL, LEnv.at, putL, loadFine, loadL, cellsAt, Trk.putNew, Trk.up, Trk.touch, Trk.gives, Trk.calm, Trk.hit, opdsOf, Trk.fresh, LEnv.keep, LEnv.ofFrom, List.map_cons, List.map_nil, nbeq, nble, nblt, ofAV, ofAVs, lenL, bin_add, bin_sub, bin_mul, bin_eql, bin_neq, bin_lss, bin_leq, bin_gtr, bin_geq, natL_nat, natL_zero, natL_one, natL_two, Nat.zero_mul, List.any_cons, List.any_nil, Bool.or_false, Bool.false_or, Bool.true_or, Bool.or_true, Bool.and_true, Bool.true_and, Bool.and_false, Bool.false_and, Bool.not_true, Bool.not_false, Nat.reduceBEq, Nat.reduceEqDiff, decide_true, decide_false, cond_true, cond_false, List.filter_nil, List.filter_cons, Nat.reduceAdd, Nat.reduceLeDiff, reduceCtorEq, List.length_nil, List.length_cons, Nat.mul_one, if_true, if_false, Bool.false_eq_true, eq_self, and_true, true_and, retL, resultsL, resAllL, resOfL, List.append_nil, List.nil_append, List.cons_append, true_or, or_true, false_or, or_false, false_and, and_false, not_true_eq_false, not_false_eq_true, ne_eq, unL, trim_nil, views_pures, LV.pures, LV.pure, freeze, Nat.reduceDiv, Int.reduceEq, Int.reduceLT, Int.reduceLE, Int.natCast_zero, LV.cells, allocL, List.getElem?_cons_zero, List.getElem?_cons_succ, storeL, spliceL, List.take_zero, List.take_succ_cons, List.drop_zero, List.drop_succ_cons, List.drop_nil, List.take_nil, Nat.le_refl, Nat.reduceMul, List.set_cons_zero, List.set_cons_succ, LV.scalar, List.all_cons, List.all_nil, Nat.lt_add_one, Nat.zero_lt_one, Nat.lt_irrefl, fillL, List.length_append, foldIntL, kind_beq, pures_int, solids_int, plains_int, unders_int, scalars_int, large_c, h, hF, hG, hM, hN, hB, hC, countP_c _ _ _ _ I.hl I.hr, rcount_c _ _ _ _ I.hl I.hr, same_refl _ _ _ _ _ _ _ (freeV_len _), same_refl _ _ _ _ _ _ _ (mostV_len _), same_refl _ _ _ _ _ _ _ (betterV_len _ _), works_c]
  · simp only [law07_ShareFinds, law07_ShareFinds.B, beqT, beqF, exF_seq, exF_region, exF_block, exF_cond, exF_ret, exF_exit, exF_skip, runL, wantL, stepL, evL, LEnv.at, putL, loadFine, loadL, cellsAt, Trk.putNew, Trk.up, Trk.touch, Trk.gives, Trk.calm, Trk.hit, opdsOf, Trk.fresh, LEnv.keep, LEnv.ofFrom, List.map_cons, List.map_nil, nbeq, nble, nblt, ofAV, ofAVs, lenL, bin_add, bin_sub, bin_mul, bin_eql, bin_neq, bin_lss, bin_leq, bin_gtr, bin_geq, natL_nat, natL_zero, natL_one, natL_two, Nat.zero_mul, List.any_cons, List.any_nil, Bool.or_false, Bool.false_or, Bool.true_or, Bool.or_true, Bool.and_true, Bool.true_and, Bool.and_false, Bool.false_and, Bool.not_true, Bool.not_false, Nat.reduceBEq, Nat.reduceEqDiff, decide_true, decide_false, cond_true, cond_false, List.filter_nil, List.filter_cons, Nat.reduceAdd, Nat.reduceLeDiff, reduceCtorEq, List.length_nil, List.length_cons, Nat.mul_one, if_true, if_false, Bool.false_eq_true, eq_self, and_true, true_and, retL, resultsL, resAllL, resOfL, List.append_nil, List.nil_append, List.cons_append, true_or, or_true, false_or, or_false, false_and, and_false, not_true_eq_false, not_false_eq_true, ne_eq, unL, trim_nil, views_pures, LV.pures, LV.pure, freeze, Nat.reduceDiv, Int.reduceEq, Int.reduceLT, Int.reduceLE, Int.natCast_zero, LV.cells, allocL, List.getElem?_cons_zero, List.getElem?_cons_succ, storeL, spliceL, List.take_zero, List.take_succ_cons, List.drop_zero, List.drop_succ_cons, List.drop_nil, List.take_nil, Nat.le_refl, Nat.reduceMul, List.set_cons_zero, List.set_cons_succ, LV.scalar, List.all_cons, List.all_nil, Nat.lt_add_one, Nat.zero_lt_one, Nat.lt_irrefl, fillL, List.length_append, foldIntL, kind_beq, pures_int, solids_int, plains_int, unders_int, scalars_int, large_c, h, works_c]
theorem finds_in (nl : Bool) (rs : List (Bool × List Int)) (h1 : nl = true → rs = []) (h2 : ∀ r ∈ rs, r.1 = true → r.2 = []) (nl' : Bool) (o : List Int) (hnl : nl' = true → o = []) :
    clF LP n_law07_ShareFinds [.lst nl false 1 rs.length (rs.map fun r => IL r.1 false 1 r.2), IL nl' false 1 o] [] = some (.P, .bool true, []) := by
  rw [← rowsOf_lv]
  exact finds_law nl nl' (rowsOf rs) o hnl
end Go.Am.Share

