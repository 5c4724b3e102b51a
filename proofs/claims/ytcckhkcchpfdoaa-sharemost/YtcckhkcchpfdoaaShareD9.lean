import Derived.Test.YtcckhkcchpfdoaaShareD5
/-
  What functions of chapter 07 compute, outright 9: the law 'ShareFree'.
-/
set_option linter.unusedVariables false
set_option linter.unusedSimpArgs false
set_option maxRecDepth 10000
set_option maxHeartbeats 400000
namespace Go.Am.Share
open Go.Am.G

section
variable (w : LBlk) (b0 c0 : Bool) (z0 : Nat) {rs : List Row}
end
end Go.Am.Share

/-
  What functions of chapter 07 compute, outright 10: the law 'ShareFree', joined.
-/
set_option linter.unusedVariables false
set_option linter.unusedSimpArgs false
set_option maxRecDepth 10000
set_option maxHeartbeats 400000
namespace Go.Am.Share
open Go.Am.G

end Go.Am.Share

/-
  What functions of chapter 07 compute, outright 11: a better division; proper ones.
-/
set_option linter.unusedVariables false
set_option linter.unusedSimpArgs false
set_option maxRecDepth 10000
set_option maxHeartbeats 400000
namespace Go.Am.Share
open Go.Am.G

theorem betterP_f (nl ex nl' ex' : Bool) (sz sz' : Nat) (rs : List Row) (o : List Int) (I : In rs nl' sz' o) : ∃ a b c, (betterV (vals rs) o = [] ∨ c = 1) ∧ (a = true → betterV (vals rs) o = []) ∧ ∀ m, clF LP n_share_Better [VL nl ex sz rs, IL nl' ex' sz' o] m = some (.P, .tup [IL a b c (betterV (vals rs) o), .int .i64 (betterE (vals rs) o)], m) := by
  obtain ⟨h1, h2⟩ := opened_c nl ex nl' ex' sz sz' rs o I.hl I.hr I.ho I.hsz I.hnl []
  unfold betterV betterE
  by_cases hd : divE (vals rs) o = 0
  · obtain ⟨nl2, ex2, sz2, h3, _⟩ := h2 hd
    have D := dok_of hd
    have k1 := D.pos
    have hlen := D.len 0 k1
    have hc : chkV (vals rs) = 0 := by
      unfold divE at hd
      split at hd
      · rename_i c; exact absurd hd c
      · rename_i c; simpa using c
    have DV := vok_of hc
    rw [vals0 rs k1, ← hlen] at DV
    have hold := ownL_length (vals rs) o 0 rs.length
    have hown := fun m => ownP_p nl ex nl2 ex2 sz sz2 D m
    obtain ⟨m', e1, e2, e3⟩ := each_better nl ex nl2 ex2 sz sz2 o DV (ownL (vals rs) o 0 rs.length) hold
    have hmem := fun q hq => allD_mem rs.length o.length q hq
    rw [find_congr (q := fun q => better (vals rs) q o) _ (fun q hq => betB_eq (dok_same D (hmem q hq).1) D)] at e2 e3
    rw [if_pos hd, if_neg (by simpa using hd), vals_length, vals0 rs k1, ← hlen]
    have hql : ∀ q, (allD rs.length o.length).find? (fun q => better (vals rs) q o) = some q → q.length = o.length := fun q hq => (hmem q (List.mem_of_find?_eq_some hq)).1
    generalize (allD rs.length o.length).find? (fun q => better (vals rs) q o) = r at *
    generalize ownL (vals rs) o 0 rs.length = old at *
    cases r with
    | none =>
      have e2 := e2 rfl
      refine ⟨true, true, 0, .inl rfl, fun _ => rfl, fun m => call_P lp_share_Better rfl (by simp [LV.pures, LV.pure]) (m1 := m') ?_ (by simp [LV.pures, LV.pure]) m⟩
      simp only [share_Better, share_Better.B, beqT, beqF, exF_seq, exF_region, exF_block, exF_cond, exF_ret, exF_exit, exF_skip, runL, wantL, stepL, evL, evC, LEnv.at, putL, loadFine, loadL, cellsAt, Trk.putNew, Trk.up, Trk.touch, Trk.gives, Trk.calm, Trk.hit, opdsOf, Trk.fresh, LEnv.keep, LEnv.ofFrom, List.map_cons, List.map_nil, nbeq, nble, nblt, ofAV, ofAVs, lenL, bin_add, bin_sub, bin_mul, bin_eql, bin_neq, bin_lss, bin_leq, bin_gtr, bin_geq, natL_nat, natL_zero, natL_one, natL_two, Nat.zero_mul, List.any_cons, List.any_nil, Bool.or_false, Bool.false_or, Bool.true_or, Bool.or_true, Bool.and_true, Bool.true_and, Bool.and_false, Bool.false_and, Bool.not_true, Bool.not_false, Nat.reduceBEq, Nat.reduceEqDiff, decide_true, decide_false, cond_true, cond_false, List.filter_nil, List.filter_cons, Nat.reduceAdd, Nat.reduceLeDiff, reduceCtorEq, List.length_nil, List.length_cons, Nat.mul_one, if_true, if_false, Bool.false_eq_true, eq_self, and_true, true_and, retL, resultsL, resAllL, resOfL, List.append_nil, List.nil_append, List.cons_append, true_or, or_true, false_or, or_false, false_and, and_false, not_true_eq_false, not_false_eq_true, ne_eq, unL, trim_nil, views_pures, LV.pures, LV.pure, freeze, Nat.reduceDiv, Int.reduceEq, Int.reduceLT, Int.reduceLE, Int.natCast_zero, LV.cells, allocL, List.getElem?_cons_zero, List.getElem?_cons_succ, storeL, spliceL, List.take_zero, List.take_succ_cons, List.drop_zero, List.drop_succ_cons, List.drop_nil, List.take_nil, Nat.le_refl, Nat.reduceMul, List.set_cons_zero, List.set_cons_succ, LV.scalar, List.all_cons, List.all_nil, Nat.lt_add_one, Nat.zero_lt_one, Nat.reduceLT, Nat.lt_irrefl, fillL, List.length_append, foldIntL, kind_beq, pures_int, solids_int, plains_int, unders_int, scalars_int, h3, hd, hown, e1, e2]
      rfl
    | some q =>
      obtain ⟨f1, f2, f3⟩ := e3 q rfl
      have hq := hql q rfl
      generalize o.length = L at *
      by_cases h : L = 0
      · subst h
        obtain rfl : q = [] := List.length_eq_zero_iff.1 hq
        simp only [CV, if_true] at f2
        refine ⟨false, true, 0, .inl rfl, fun _ => rfl, fun m => call_P lp_share_Better rfl (by simp [LV.pures, LV.pure]) (m1 := m') ?_ (by simp [LV.pures, LV.pure]) m⟩
        simp only [share_Better, share_Better.B, beqT, beqF, exF_seq, exF_region, exF_block, exF_cond, exF_ret, exF_exit, exF_skip, runL, wantL, stepL, evL, evC, LEnv.at, putL, loadFine, loadL, cellsAt, Trk.putNew, Trk.up, Trk.touch, Trk.gives, Trk.calm, Trk.hit, opdsOf, Trk.fresh, LEnv.keep, LEnv.ofFrom, List.map_cons, List.map_nil, nbeq, nble, nblt, ofAV, ofAVs, lenL, bin_add, bin_sub, bin_mul, bin_eql, bin_neq, bin_lss, bin_leq, bin_gtr, bin_geq, natL_nat, natL_zero, natL_one, natL_two, Nat.zero_mul, List.any_cons, List.any_nil, Bool.or_false, Bool.false_or, Bool.true_or, Bool.or_true, Bool.and_true, Bool.true_and, Bool.and_false, Bool.false_and, Bool.not_true, Bool.not_false, Nat.reduceBEq, Nat.reduceEqDiff, decide_true, decide_false, cond_true, cond_false, List.filter_nil, List.filter_cons, Nat.reduceAdd, Nat.reduceLeDiff, reduceCtorEq, List.length_nil, List.length_cons, Nat.mul_one, if_true, if_false, Bool.false_eq_true, eq_self, and_true, true_and, retL, resultsL, resAllL, resOfL, List.append_nil, List.nil_append, List.cons_append, true_or, or_true, false_or, or_false, false_and, and_false, not_true_eq_false, not_false_eq_true, ne_eq, unL, trim_nil, views_pures, LV.pures, LV.pure, freeze, Nat.reduceDiv, Int.reduceEq, Int.reduceLT, Int.reduceLE, Int.natCast_zero, LV.cells, allocL, List.getElem?_cons_zero, List.getElem?_cons_succ, storeL, spliceL, List.take_zero, List.take_succ_cons, List.drop_zero, List.drop_succ_cons, List.drop_nil, List.take_nil, Nat.le_refl, Nat.reduceMul, List.set_cons_zero, List.set_cons_succ, LV.scalar, List.all_cons, List.all_nil, Nat.lt_add_one, Nat.zero_lt_one, Nat.reduceLT, Nat.lt_irrefl, fillL, List.length_append, foldIntL, kind_beq, pures_int, solids_int, plains_int, unders_int, scalars_int, h3, hd, hown, e1, f1, f2]
        rfl
      · have f3 := f3 h
        simp only [CV, if_neg h] at f2
        have hv := view_slq m' 10 L 1 q true 0 f3 hq
        refine ⟨false, Nat.beq 1 0, 1, .inr rfl, (fun h => by cases h), fun m => call_Pv lp_share_Better rfl (by simp [LV.pures, LV.pure]) ?_ hv m⟩
        simp only [share_Better, share_Better.B, beqT, beqF, exF_seq, exF_region, exF_block, exF_cond, exF_ret, exF_exit, exF_skip, runL, wantL, stepL, evL, evC, LEnv.at, putL, loadFine, loadL, cellsAt, Trk.putNew, Trk.up, Trk.touch, Trk.gives, Trk.calm, Trk.hit, opdsOf, Trk.fresh, LEnv.keep, LEnv.ofFrom, List.map_cons, List.map_nil, nbeq, nble, nblt, ofAV, ofAVs, lenL, bin_add, bin_sub, bin_mul, bin_eql, bin_neq, bin_lss, bin_leq, bin_gtr, bin_geq, natL_nat, natL_zero, natL_one, natL_two, Nat.zero_mul, List.any_cons, List.any_nil, Bool.or_false, Bool.false_or, Bool.true_or, Bool.or_true, Bool.and_true, Bool.true_and, Bool.and_false, Bool.false_and, Bool.not_true, Bool.not_false, Nat.reduceBEq, Nat.reduceEqDiff, decide_true, decide_false, cond_true, cond_false, List.filter_nil, List.filter_cons, Nat.reduceAdd, Nat.reduceLeDiff, reduceCtorEq, List.length_nil, List.length_cons, Nat.mul_one, if_true, if_false, Bool.false_eq_true, eq_self, and_true, true_and, retL, resultsL, resAllL, resOfL, List.append_nil, List.nil_append, List.cons_append, true_or, or_true, false_or, or_false, false_and, and_false, not_true_eq_false, not_false_eq_true, ne_eq, unL, trim_nil, views_pures, LV.pures, LV.pure, freeze, Nat.reduceDiv, Int.reduceEq, Int.reduceLT, Int.reduceLE, Int.natCast_zero, LV.cells, allocL, List.getElem?_cons_zero, List.getElem?_cons_succ, storeL, spliceL, List.take_zero, List.take_succ_cons, List.drop_zero, List.drop_succ_cons, List.drop_nil, List.take_nil, Nat.le_refl, Nat.reduceMul, List.set_cons_zero, List.set_cons_succ, LV.scalar, List.all_cons, List.all_nil, Nat.lt_add_one, Nat.zero_lt_one, Nat.reduceLT, Nat.lt_irrefl, fillL, List.length_append, foldIntL, kind_beq, pures_int, solids_int, plains_int, unders_int, scalars_int, h3, hd, hown, e1, f1, f2]
  · have h1 := h1 hd
    rw [if_neg hd, if_pos (by simpa using hd)]
    refine ⟨true, true, 0, .inl rfl, fun _ => rfl, fun m => call_P lp_share_Better rfl (by simp [LV.pures, LV.pure]) (m1 := [⟨[LNIL, LNIL], true⟩]) ?_ (by simp [LV.pures, LV.pure]) m⟩
    simp only [share_Better, share_Better.B, beqT, beqF, exF_seq, exF_region, exF_block, exF_cond, exF_ret, exF_exit, exF_skip, runL, wantL, stepL, evL, evC, LEnv.at, putL, loadFine, loadL, cellsAt, Trk.putNew, Trk.up, Trk.touch, Trk.gives, Trk.calm, Trk.hit, opdsOf, Trk.fresh, LEnv.keep, LEnv.ofFrom, List.map_cons, List.map_nil, nbeq, nble, nblt, ofAV, ofAVs, lenL, bin_add, bin_sub, bin_mul, bin_eql, bin_neq, bin_lss, bin_leq, bin_gtr, bin_geq, natL_nat, natL_zero, natL_one, natL_two, Nat.zero_mul, List.any_cons, List.any_nil, Bool.or_false, Bool.false_or, Bool.true_or, Bool.or_true, Bool.and_true, Bool.true_and, Bool.and_false, Bool.false_and, Bool.not_true, Bool.not_false, Nat.reduceBEq, Nat.reduceEqDiff, decide_true, decide_false, cond_true, cond_false, List.filter_nil, List.filter_cons, Nat.reduceAdd, Nat.reduceLeDiff, reduceCtorEq, List.length_nil, List.length_cons, Nat.mul_one, if_true, if_false, Bool.false_eq_true, eq_self, and_true, true_and, retL, resultsL, resAllL, resOfL, List.append_nil, List.nil_append, List.cons_append, true_or, or_true, false_or, or_false, false_and, and_false, not_true_eq_false, not_false_eq_true, ne_eq, unL, trim_nil, views_pures, LV.pures, LV.pure, freeze, Nat.reduceDiv, Int.reduceEq, Int.reduceLT, Int.reduceLE, Int.natCast_zero, LV.cells, allocL, List.getElem?_cons_zero, List.getElem?_cons_succ, storeL, spliceL, List.take_zero, List.take_succ_cons, List.drop_zero, List.drop_succ_cons, List.drop_nil, List.take_nil, Nat.le_refl, Nat.reduceMul, List.set_cons_zero, List.set_cons_succ, LV.scalar, List.all_cons, List.all_nil, Nat.lt_add_one, Nat.zero_lt_one, Nat.reduceLT, Nat.lt_irrefl, fillL, List.length_append, foldIntL, kind_beq, pures_int, solids_int, plains_int, unders_int, scalars_int, h1, hd]
    rfl
/-! ### Better divisions -/
def btR : List Int → List Int → Bool → Option Bool
  | x :: xs, y :: ys, m => if x < y then none else btR xs ys (m || decide (y < x))
  | _, _, m => some m
theorem betL_R : ∀ (a b : List Int) (m : Bool), betL a b m = (btR a b m).getD false
  | [], b, m => by cases b <;> rfl
  | x :: xs, [], m => rfl
  | x :: xs, y :: ys, m => by
    rw [betL, btR]
    by_cases c : x < y
    · rw [if_pos c, if_pos c]; rfl
    · rw [if_neg c, if_neg c, betL_R xs ys]
end Go.Am.Share


