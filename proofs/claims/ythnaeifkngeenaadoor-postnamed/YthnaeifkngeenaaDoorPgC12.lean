/-
  What functions of chapter 12 compute, 12: the fewest and the cheapest posts, the program's and the reference's.
-/
import Derived.Test.YthnaeifkngeenaaDoorPgC9
set_option linter.unusedVariables false
set_option linter.unusedSimpArgs false
set_option maxRecDepth 10000
namespace Go.Am.Post
open Go.Am.G

/-! ### Fewest -/
def fewV (s : List Int) : List Nat := if chkS s = 0 then firstS s (fun _ => 1) else []
theorem fewestP_c (nl ex : Bool) (sz : Nat) (s : List Int) (hs : s.length < 1000000) (m : LMem) : clF LP n_post_Fewest [IL nl ex sz s] m = some (.P, .tup [RLn (fewV s), .int .i64 (chkS s)], m) := by
  have hc := fun m => check_c nl ex sz s hs m
  refine call_P lp_post_Fewest rfl (by simp [LV.pures, LV.pure]) (m1 := []) ?_ (by simp [LV.pures, LV.pure]) m
  unfold fewV
  by_cases h1 : chkS s = 0
  · have K := okS_of h1
    have hf := fun m => first_c n_post_same [] (fun _ => 1) nl ex sz K (same_ok s.length) m
    rw [first_eq K n_post_same [] (fun _ => 1) (fun _ _ => by omega)] at hf
    rw [if_pos h1]
    simp only [post_Fewest, post_Fewest.B, beqT, beqF, exF_seq, exF_region, exF_block, exF_cond, exF_ret, exF_exit, exF_skip, runL, wantL, stepL, evL, evC, LEnv.at, putL, loadFine, loadL, cellsAt, Trk.putNew, Trk.up, Trk.touch, Trk.gives, Trk.calm, Trk.hit, opdsOf, Trk.fresh, LEnv.keep, LEnv.ofFrom, List.map_cons, List.map_nil, nbeq, nble, nblt, ofAV, ofAVs, lenL, bin_add, bin_sub, bin_mul, bin_eql, bin_neq, bin_lss, bin_leq, bin_gtr, bin_geq, natL_nat, natL_zero, natL_one, natL_two, Nat.zero_mul, List.any_cons, List.any_nil, Bool.or_false, Bool.false_or, Bool.true_or, Bool.or_true, Bool.and_true, Bool.true_and, Bool.and_false, Bool.false_and, Bool.not_true, Bool.not_false, Nat.reduceBEq, Nat.reduceEqDiff, decide_true, decide_false, cond_true, cond_false, List.filter_nil, List.filter_cons, Nat.reduceAdd, Nat.reduceLeDiff, reduceCtorEq, List.length_nil, List.length_cons, Nat.mul_one, if_true, if_false, Bool.false_eq_true, eq_self, and_true, true_and, retL, resultsL, resAllL, resOfL, List.append_nil, List.nil_append, List.cons_append, true_or, or_true, false_or, or_false, false_and, and_false, not_true_eq_false, not_false_eq_true, ne_eq, unL, trim_nil, views_pures, LV.pures, LV.pure, freeze, Nat.reduceDiv, Int.reduceEq, Int.reduceLT, Int.reduceLE, Int.natCast_zero, LV.cells, allocL, List.getElem?_cons_zero, List.getElem?_cons_succ, storeL, spliceL, List.take_zero, List.take_succ_cons, List.drop_zero, List.drop_succ_cons, List.drop_nil, List.take_nil, Nat.le_refl, Nat.reduceMul, List.set_cons_zero, List.set_cons_succ, LV.scalar, List.all_cons, List.all_nil, Nat.lt_add_one, Nat.zero_lt_one, Nat.reduceLT, Nat.lt_irrefl, fillL, List.length_append, foldIntL, kind_beq, pures_int, solids_int, plains_int, unders_int, scalars_int, hc, h1, hf]
  · rw [if_neg h1]
    simp only [post_Fewest, post_Fewest.B, beqT, beqF, exF_seq, exF_region, exF_block, exF_cond, exF_ret, exF_exit, exF_skip, runL, wantL, stepL, evL, evC, LEnv.at, putL, loadFine, loadL, cellsAt, Trk.putNew, Trk.up, Trk.touch, Trk.gives, Trk.calm, Trk.hit, opdsOf, Trk.fresh, LEnv.keep, LEnv.ofFrom, List.map_cons, List.map_nil, nbeq, nble, nblt, ofAV, ofAVs, lenL, bin_add, bin_sub, bin_mul, bin_eql, bin_neq, bin_lss, bin_leq, bin_gtr, bin_geq, natL_nat, natL_zero, natL_one, natL_two, Nat.zero_mul, List.any_cons, List.any_nil, Bool.or_false, Bool.false_or, Bool.true_or, Bool.or_true, Bool.and_true, Bool.true_and, Bool.and_false, Bool.false_and, Bool.not_true, Bool.not_false, Nat.reduceBEq, Nat.reduceEqDiff, decide_true, decide_false, cond_true, cond_false, List.filter_nil, List.filter_cons, Nat.reduceAdd, Nat.reduceLeDiff, reduceCtorEq, List.length_nil, List.length_cons, Nat.mul_one, if_true, if_false, Bool.false_eq_true, eq_self, and_true, true_and, retL, resultsL, resAllL, resOfL, List.append_nil, List.nil_append, List.cons_append, true_or, or_true, false_or, or_false, false_and, and_false, not_true_eq_false, not_false_eq_true, ne_eq, unL, trim_nil, views_pures, LV.pures, LV.pure, freeze, Nat.reduceDiv, Int.reduceEq, Int.reduceLT, Int.reduceLE, Int.natCast_zero, LV.cells, allocL, List.getElem?_cons_zero, List.getElem?_cons_succ, storeL, spliceL, List.take_zero, List.take_succ_cons, List.drop_zero, List.drop_succ_cons, List.drop_nil, List.take_nil, Nat.le_refl, Nat.reduceMul, List.set_cons_zero, List.set_cons_succ, LV.scalar, List.all_cons, List.all_nil, Nat.lt_add_one, Nat.zero_lt_one, Nat.reduceLT, Nat.lt_irrefl, fillL, List.length_append, foldIntL, kind_beq, pures_int, solids_int, plains_int, unders_int, scalars_int, hc, h1]
    rfl
theorem cost_one (S : List Nat) : cost (fun _ => 1) S = S.length := by
  induction S with
  | nil => rfl
  | cons a r ih => simp only [cost, List.map_cons, List.sum_cons, List.length_cons] at *; omega
/-- The least number of posts. -/
theorem few_min {s : List Int} (K : OkS s) : (∀ l ∈ gs s, bestC s (fun _ => 1) ≤ l.length) ∧ ∃ l ∈ gs s, l.length = bestC s (fun _ => 1) := by
  have h := (wh_some _ _ _ _ _ _).1 (best_ok s (fun _ => 1))
  rw [gs_dom K]
  simp only [List.mem_filter]
  constructor
  · rintro l ⟨h1, h2⟩
    have := h.2 l h1 ⟨h2, by simp, by simp⟩
    rwa [cost_one] at this
  · obtain ⟨⟨S, h1, ⟨h2, _⟩, h3⟩, _⟩ := h
    exact ⟨S, ⟨h1, h2⟩, by rw [← cost_one]; exact h3⟩
def smallS (s : List Int) : List (List Nat) := (asc 0 s.length).filter (goodC (par s) s.length (fun _ => 1) (bestC s (fun _ => 1)))
end Go.Am.Post

