/-
  What functions of chapter 07 compute, 4: divisions are opened; envy by more than one thing.
-/
import Derived.Test.YtcckhkcchpfdoaaShareC3
set_option linter.unusedVariables false
set_option linter.unusedSimpArgs false
set_option maxRecDepth 10000
namespace Go.Am.Share

/-- Values and a division are as the chapter asks. -/
def divE (vs : List (List Int)) (o : List Int) : Int :=
  if chkV vs ≠ 0 then chkV vs else if o.length ≠ (vs.getD 0 []).length then 5 else if o.any (fun x => !inB 0 ((vs.length : Int) - 1) x) then 2 else 0

theorem rowsChk_ok {n0 : Nat} : ∀ {vs : List (List Int)}, rowsChk n0 vs = 0 → ∀ r ∈ vs, r.length = n0 ∧ Ok20 r
  | [], _, r, h => by simp at h
  | v :: vs, h, r, hr => by
    rw [rowsChk] at h
    split at h
    · omega
    · rename_i h1
      split at h
      · omega
      · rename_i h2
        rcases List.mem_cons.1 hr with rfl | hr
        · refine ⟨by simpa using h1, fun x hx => ?_⟩
          simp only [List.any_eq_true, not_exists, not_and, Bool.not_eq_true', Bool.not_eq_false] at h2
          have := h2 x hx
          simpa [inB] using this
        · exact rowsChk_ok h r hr
theorem chkV_ok {vs : List (List Int)} (h : chkV vs = 0) : 0 < vs.length ∧ vs.length ≤ 4 ∧ (vs.getD 0 []).length ≤ 6 ∧ ∀ r ∈ vs, r.length = (vs.getD 0 []).length ∧ Ok20 r := by
  unfold chkV at h
  split at h
  · omega
  · rename_i h1
    split at h
    · omega
    · rename_i h2
      exact ⟨by omega, by omega, by omega, rowsChk_ok h⟩

theorem opened1_c (nl ex : Bool) (sz : Nat) (rs : List Row) (hl : 0 < rs.length ∧ rs.length < 1000000) (x : Int) (m : LMem) : clF LP n_share_opened_1 [.int .i64 x, .elt [VL nl ex sz rs] 0] m = some (.P, .bool (!inB 0 ((rs.length : Int) - 1) x), m) := by
  refine call_P lp_share_opened_1 rfl (by simp [LV.pures, LV.pure]) (m1 := []) ?_ rfl m
  have hw : IntKind.i64.wrap ((rs.length : Int) - 1) = (rs.length : Int) - 1 := wrap_in (by omega)
  simp only [share_opened_1, share_opened_1.B, beqT, beqF, exF_seq, exF_region, exF_block, exF_cond, exF_ret, exF_exit, exF_skip, runL, wantL, stepL, evL, LEnv.at, putL, loadFine, loadL, cellsAt, Trk.putNew, Trk.up, Trk.touch, Trk.gives, Trk.calm, Trk.hit, opdsOf, Trk.fresh, LEnv.keep, LEnv.ofFrom, List.map_cons, List.map_nil, nbeq, nble, nblt, ofAV, ofAVs, lenL, bin_add, bin_sub, bin_mul, bin_eql, bin_neq, bin_lss, bin_leq, bin_gtr, bin_geq, natL_nat, natL_zero, natL_one, natL_two, Nat.zero_mul, List.any_cons, List.any_nil, Bool.or_false, Bool.false_or, Bool.true_or, Bool.or_true, Bool.and_true, Bool.true_and, Bool.and_false, Bool.false_and, Bool.not_true, Bool.not_false, Nat.reduceBEq, Nat.reduceEqDiff, decide_true, decide_false, cond_true, cond_false, List.filter_nil, List.filter_cons, Nat.reduceAdd, Nat.reduceLeDiff, reduceCtorEq, List.length_nil, List.length_cons, Nat.mul_one, if_true, if_false, Bool.false_eq_true, eq_self, and_true, true_and, retL, resultsL, resAllL, resOfL, List.append_nil, List.nil_append, List.cons_append, true_or, or_true, false_or, or_false, false_and, and_false, not_true_eq_false, not_false_eq_true, ne_eq, unL, trim_nil, LV.cells, allocL, List.getElem?_cons_zero, List.getElem?_cons_succ, storeL, spliceL, List.take_zero, List.take_succ_cons, List.drop_zero, List.drop_succ_cons, List.drop_nil, List.take_nil, Nat.le_refl, Nat.reduceMul, List.set_cons_zero, List.set_cons_succ, LV.scalar, List.all_cons, List.all_nil, Nat.lt_add_one, Nat.zero_lt_one, Nat.lt_irrefl, fillL, List.length_append, foldIntL, kind_beq, pures_int, solids_int, plains_int, unders_int, scalars_int, hw, within_c]

theorem clone_c (nl ex : Bool) (sz : Nat) (l : List Int) (hl : l.length < 1000000) (m : LMem) (hsz : l = [] ∨ sz = 1) (hnl : nl = true → l = []) : clF LP n_slices_Clone_int_int [IL nl ex sz l] m =
    if l = [] then some (.O, .lst nl true 0 0 [], m) else some (.O, .sl m.length 0 l.length l.length 1 1 l.length, m ++ [⟨l.map (LV.int .i64), true⟩]) := by
  rw [clF_eq, lp_slices_Clone_int_int]
  simp only [callMode, slices_Clone_int_int, views_pures m [IL nl ex sz l] (by simp [LV.pures, LV.pure])]
  cases nl with
  | true =>
    obtain rfl := hnl rfl
    simp only [slices_Clone_int_int.B, beqT, beqF, exF_seq, exF_region, exF_block, exF_cond, exF_ret, exF_exit, exF_skip, runL, wantL, stepL, evL, LEnv.at, putL, loadFine, loadL, cellsAt, Trk.putNew, Trk.up, Trk.touch, Trk.gives, Trk.calm, Trk.hit, opdsOf, Trk.fresh, LEnv.keep, LEnv.ofFrom, List.map_cons, List.map_nil, nbeq, nble, nblt, ofAV, ofAVs, lenL, bin_add, bin_sub, bin_mul, bin_eql, bin_neq, bin_lss, bin_leq, bin_gtr, bin_geq, natL_nat, natL_zero, natL_one, natL_two, Nat.zero_mul, List.any_cons, List.any_nil, Bool.or_false, Bool.false_or, Bool.true_or, Bool.or_true, Bool.and_true, Bool.true_and, Bool.and_false, Bool.false_and, Bool.not_true, Bool.not_false, Nat.reduceBEq, Nat.reduceEqDiff, decide_true, decide_false, cond_true, cond_false, List.filter_nil, List.filter_cons, Nat.reduceAdd, Nat.reduceLeDiff, reduceCtorEq, List.length_nil, List.length_cons, Nat.mul_one, if_true, if_false, Bool.false_eq_true, eq_self, and_true, true_and, retL, resultsL, resAllL, resOfL, List.append_nil, List.nil_append, List.cons_append, true_or, or_true, false_or, or_false, false_and, and_false, not_true_eq_false, not_false_eq_true, ne_eq, unL, trim_nil, LV.cells, allocL, List.getElem?_cons_zero, List.getElem?_cons_succ, storeL, spliceL, List.take_zero, List.take_succ_cons, List.drop_zero, List.drop_succ_cons, List.drop_nil, List.take_nil, Nat.le_refl, Nat.reduceMul, List.set_cons_zero, List.set_cons_succ, LV.scalar, List.all_cons, List.all_nil, Nat.lt_add_one, Nat.zero_lt_one, Nat.lt_irrefl, fillL, List.length_append, foldIntL, kind_beq, pures_int, solids_int, plains_int, unders_int, scalars_int, nilOf, eqsL, Bool.xor_false, Bool.false_xor, Bool.xor_true, LV.shift, newOnly, LV.solid, freeze]
  | false =>
    by_cases h : l = []
    · subst h
      simp only [slices_Clone_int_int.B, beqT, beqF, exF_seq, exF_region, exF_block, exF_cond, exF_ret, exF_exit, exF_skip, runL, wantL, stepL, evL, LEnv.at, putL, loadFine, loadL, cellsAt, Trk.putNew, Trk.up, Trk.touch, Trk.gives, Trk.calm, Trk.hit, opdsOf, Trk.fresh, LEnv.keep, LEnv.ofFrom, List.map_cons, List.map_nil, nbeq, nble, nblt, ofAV, ofAVs, lenL, bin_add, bin_sub, bin_mul, bin_eql, bin_neq, bin_lss, bin_leq, bin_gtr, bin_geq, natL_nat, natL_zero, natL_one, natL_two, Nat.zero_mul, List.any_cons, List.any_nil, Bool.or_false, Bool.false_or, Bool.true_or, Bool.or_true, Bool.and_true, Bool.true_and, Bool.and_false, Bool.false_and, Bool.not_true, Bool.not_false, Nat.reduceBEq, Nat.reduceEqDiff, decide_true, decide_false, cond_true, cond_false, List.filter_nil, List.filter_cons, Nat.reduceAdd, Nat.reduceLeDiff, reduceCtorEq, List.length_nil, List.length_cons, Nat.mul_one, if_true, if_false, Bool.false_eq_true, eq_self, and_true, true_and, retL, resultsL, resAllL, resOfL, List.append_nil, List.nil_append, List.cons_append, true_or, or_true, false_or, or_false, false_and, and_false, not_true_eq_false, not_false_eq_true, ne_eq, unL, trim_nil, LV.cells, allocL, List.getElem?_cons_zero, List.getElem?_cons_succ, storeL, spliceL, List.take_zero, List.take_succ_cons, List.drop_zero, List.drop_succ_cons, List.drop_nil, List.take_nil, Nat.le_refl, Nat.reduceMul, List.set_cons_zero, List.set_cons_succ, LV.scalar, List.all_cons, List.all_nil, Nat.lt_add_one, Nat.zero_lt_one, Nat.lt_irrefl, fillL, List.length_append, foldIntL, kind_beq, pures_int, solids_int, plains_int, unders_int, scalars_int, nilOf, eqsL, Bool.xor_false, Bool.false_xor, Bool.xor_true, LV.shift, newOnly, LV.solid, freeze, appendL, contents, views, viewL]
    · obtain rfl : sz = 1 := by rcases hsz with c | c; exact absurd c h; exact c
      have h0 : ¬ l.length = 0 := by simpa using h
      have hr1 : l.length * 8 ≤ roomMost := by unfold roomMost; omega
      have hr2 : l.length ≤ roomMost := by unfold roomMost; omega
      simp only [slices_Clone_int_int.B, beqT, beqF, exF_seq, exF_region, exF_block, exF_cond, exF_ret, exF_exit, exF_skip, runL, wantL, stepL, evL, LEnv.at, putL, loadFine, loadL, cellsAt, Trk.putNew, Trk.up, Trk.touch, Trk.gives, Trk.calm, Trk.hit, opdsOf, Trk.fresh, LEnv.keep, LEnv.ofFrom, List.map_cons, List.map_nil, nbeq, nble, nblt, ofAV, ofAVs, lenL, bin_add, bin_sub, bin_mul, bin_eql, bin_neq, bin_lss, bin_leq, bin_gtr, bin_geq, natL_nat, natL_zero, natL_one, natL_two, Nat.zero_mul, List.any_cons, List.any_nil, Bool.or_false, Bool.false_or, Bool.true_or, Bool.or_true, Bool.and_true, Bool.true_and, Bool.and_false, Bool.false_and, Bool.not_true, Bool.not_false, Nat.reduceBEq, Nat.reduceEqDiff, decide_true, decide_false, cond_true, cond_false, List.filter_nil, List.filter_cons, Nat.reduceAdd, Nat.reduceLeDiff, reduceCtorEq, List.length_nil, List.length_cons, Nat.mul_one, if_true, if_false, Bool.false_eq_true, eq_self, and_true, true_and, retL, resultsL, resAllL, resOfL, List.append_nil, List.nil_append, List.cons_append, true_or, or_true, false_or, or_false, false_and, and_false, not_true_eq_false, not_false_eq_true, ne_eq, unL, trim_nil, LV.cells, allocL, List.getElem?_cons_zero, List.getElem?_cons_succ, storeL, spliceL, List.take_zero, List.take_succ_cons, List.drop_zero, List.drop_succ_cons, List.drop_nil, List.take_nil, Nat.le_refl, Nat.reduceMul, List.set_cons_zero, List.set_cons_succ, LV.scalar, List.all_cons, List.all_nil, Nat.lt_add_one, Nat.zero_lt_one, Nat.lt_irrefl, fillL, List.length_append, foldIntL, kind_beq, pures_int, solids_int, plains_int, unders_int, scalars_int, nilOf, eqsL, Bool.xor_false, Bool.false_xor, Bool.xor_true, LV.shift, newOnly, LV.solid, freeze, appendL, contents, views, viewL, h0, hr1, hr2, newSl, Nat.zero_add, shifts_int, h]
end Go.Am.Share
