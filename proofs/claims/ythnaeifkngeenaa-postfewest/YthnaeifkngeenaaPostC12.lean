/-
  What functions of chapter 12 compute, 12: the fewest and the cheapest posts, the program's and the reference's.
-/
import Derived.Test.YthnaeifkngeenaaPostC11
set_option linter.unusedVariables false
set_option linter.unusedSimpArgs false
set_option maxRecDepth 10000
namespace Go.Am.Post
open Go.Am.G

/-! ### Fewest -/
def fewV (s : List Int) : List Nat := if chkS s = 0 then firstS s (fun _ => 1) else []
theorem fewestP_c (nl ex : Bool) (sz : Nat) (s : List Int) (hs : s.length < 1000000) (m : LMem) : clF LP n_post_Fewest [IL nl ex sz s] m = some (.P, .tup [RLn (fewV s), .int .i64 (chkS s)], m) := by
  have hc := fun m => check_c nl ex sz s hs m
  refine call_P lp_post_Fewest rfl (by simp [LV.pures, LV.pure]) (m1 := []) ?_ (by simp [LV.pures, LV.pure]) m
  unfold fewV
  by_cases h1 : chkS s = 0
  · have K := okS_of h1
    have hf := fun m => first_c n_post_same [] (fun _ => 1) nl ex sz K (same_ok s.length) m
    rw [first_eq K n_post_same [] (fun _ => 1) (fun _ _ => by omega)] at hf
    rw [if_pos h1]
    simp only [post_Fewest, post_Fewest.B, beqT, beqF, exF_seq, exF_region, exF_block, exF_cond, exF_ret, exF_exit, exF_skip, runL, wantL, stepL, evL, LEnv.at, putL, loadFine, loadL, cellsAt, Trk.putNew, Trk.up, Trk.touch, Trk.gives, Trk.calm, Trk.hit, opdsOf, Trk.fresh, LEnv.keep, LEnv.ofFrom, List.map_cons, List.map_nil, nbeq, nble, nblt, ofAV, ofAVs, lenL, bin_add, bin_sub, bin_mul, bin_eql, bin_neq, bin_lss, bin_leq, bin_gtr, bin_geq, natL_nat, natL_zero, natL_one, natL_two, Nat.zero_mul, List.any_cons, List.any_nil, Bool.or_false, Bool.false_or, Bool.true_or, Bool.or_true, Bool.and_true, Bool.true_and, Bool.and_false, Bool.false_and, Bool.not_true, Bool.not_false, Nat.reduceBEq, Nat.reduceEqDiff, decide_true, decide_false, cond_true, cond_false, List.filter_nil, List.filter_cons, Nat.reduceAdd, Nat.reduceLeDiff, reduceCtorEq, List.length_nil, List.length_cons, Nat.mul_one, if_true, if_false, Bool.false_eq_true, eq_self, and_true, true_and, retL, resultsL, resAllL, resOfL, List.append_nil, List.nil_append, List.cons_append, true_or, or_true, false_or, or_false, false_and, and_false, not_true_eq_false, not_false_eq_true, ne_eq, unL, trim_nil, views_pures, LV.pures, LV.pure, freeze, Nat.reduceDiv, Int.reduceEq, Int.reduceLT, Int.reduceLE, Int.natCast_zero, LV.cells, allocL, List.getElem?_cons_zero, List.getElem?_cons_succ, storeL, spliceL, List.take_zero, List.take_succ_cons, List.drop_zero, List.drop_succ_cons, List.drop_nil, List.take_nil, Nat.le_refl, Nat.reduceMul, List.set_cons_zero, List.set_cons_succ, LV.scalar, List.all_cons, List.all_nil, Nat.lt_add_one, Nat.zero_lt_one, Nat.reduceLT, Nat.lt_irrefl, fillL, List.length_append, foldIntL, kind_beq, pures_int, solids_int, plains_int, unders_int, scalars_int, hc, h1, hf]
  · rw [if_neg h1]
    simp only [post_Fewest, post_Fewest.B, beqT, beqF, exF_seq, exF_region, exF_block, exF_cond, exF_ret, exF_exit, exF_skip, runL, wantL, stepL, evL, LEnv.at, putL, loadFine, loadL, cellsAt, Trk.putNew, Trk.up, Trk.touch, Trk.gives, Trk.calm, Trk.hit, opdsOf, Trk.fresh, LEnv.keep, LEnv.ofFrom, List.map_cons, List.map_nil, nbeq, nble, nblt, ofAV, ofAVs, lenL, bin_add, bin_sub, bin_mul, bin_eql, bin_neq, bin_lss, bin_leq, bin_gtr, bin_geq, natL_nat, natL_zero, natL_one, natL_two, Nat.zero_mul, List.any_cons, List.any_nil, Bool.or_false, Bool.false_or, Bool.true_or, Bool.or_true, Bool.and_true, Bool.true_and, Bool.and_false, Bool.false_and, Bool.not_true, Bool.not_false, Nat.reduceBEq, Nat.reduceEqDiff, decide_true, decide_false, cond_true, cond_false, List.filter_nil, List.filter_cons, Nat.reduceAdd, Nat.reduceLeDiff, reduceCtorEq, List.length_nil, List.length_cons, Nat.mul_one, if_true, if_false, Bool.false_eq_true, eq_self, and_true, true_and, retL, resultsL, resAllL, resOfL, List.append_nil, List.nil_append, List.cons_append, true_or, or_true, false_or, or_false, false_and, and_false, not_true_eq_false, not_false_eq_true, ne_eq, unL, trim_nil, views_pures, LV.pures, LV.pure, freeze, Nat.reduceDiv, Int.reduceEq, Int.reduceLT, Int.reduceLE, Int.natCast_zero, LV.cells, allocL, List.getElem?_cons_zero, List.getElem?_cons_succ, storeL, spliceL, List.take_zero, List.take_succ_cons, List.drop_zero, List.drop_succ_cons, List.drop_nil, List.take_nil, Nat.le_refl, Nat.reduceMul, List.set_cons_zero, List.set_cons_succ, LV.scalar, List.all_cons, List.all_nil, Nat.lt_add_one, Nat.zero_lt_one, Nat.reduceLT, Nat.lt_irrefl, fillL, List.length_append, foldIntL, kind_beq, pures_int, solids_int, plains_int, unders_int, scalars_int, hc, h1]
    rfl
theorem cost_one (S : List Nat) : cost (fun _ => 1) S = S.length := by
  induction S with
  | nil => rfl
  | cons a r ih => simp only [cost, List.map_cons, List.sum_cons, List.length_cons] at *; omega
/-- The least number of posts. -/
theorem few_min {s : List Int} (K : OkS s) : (∀ l ∈ gs s, bestC s (fun _ => 1) ≤ l.length) ∧ ∃ l ∈ gs s, l.length = bestC s (fun _ => 1) := by
  have h := (wh_some _ _ _ _ _ _).1 (best_ok s (fun _ => 1))
  rw [gs_dom K]
  simp only [List.mem_filter]
  constructor
  · rintro l ⟨h1, h2⟩
    have := h.2 l h1 ⟨h2, by simp, by simp⟩
    rwa [cost_one] at this
  · obtain ⟨⟨S, h1, ⟨h2, _⟩, h3⟩, _⟩ := h
    exact ⟨S, ⟨h1, h2⟩, by rw [← cost_one]; exact h3⟩
def smallS (s : List Int) : List (List Nat) := (asc 0 s.length).filter (goodC (par s) s.length (fun _ => 1) (bestC s (fun _ => 1)))
theorem smF_gs {s : List Int} (K : OkS s) : smF [] (gs s) = smallS s := by
  obtain ⟨h1, h2⟩ := few_min K
  rw [smF_min _ _ h1 h2, gs_dom K, List.filter_filter, smallS]
  refine List.filter_congr fun S _ => ?_
  rw [goodC, cost_one, Bool.and_comm]
theorem smallS_head (s : List Int) : ∃ r, smallS s = firstS s (fun _ => 1) :: r := by
  have h := firstS_find s (fun _ => 1)
  rw [← List.head?_filter] at h
  change (smallS s).head? = _ at h
  cases hs : smallS s with
  | nil => rw [hs] at h; cases h
  | cons a r => rw [hs] at h; exact ⟨r, by rw [Option.some.inj h]⟩
theorem small_gs (nl ex : Bool) (sz : Nat) {s : List Int} (K : OkS s) : ∃ a b a' b', ∀ m, clF LP n_ref12_guarding [IL nl ex sz s] m = some (.P, .lst a b 1 (gs s).length (rowsL (gs s)), m) ∧ clF LP n_ref12_smallest [.lst a b 1 (gs s).length (rowsL (gs s))] m = some (.P, .lst a' b' 1 (smallS s).length (rowsL (smallS s)), m) := by
  obtain ⟨a, b, h1⟩ := guarding_c nl ex sz K
  have hl := gs_len s K.le
  obtain ⟨r, hr⟩ := smallS_head s
  obtain ⟨a', b', h2⟩ := smallest_c a b (gs s) (by omega) (by rw [smF_gs K, hr]; simp)
  rw [smF_gs K] at h2
  exact ⟨a, b, a', b', fun m => ⟨h1 m, h2 m⟩⟩
theorem fewestR_c (nl ex : Bool) (sz : Nat) (s : List Int) (hs : s.length < 1000000) (m : LMem) : clF LP n_ref12_Fewest [IL nl ex sz s] m = some (.P, .tup [RLn (fewV s), .int .i64 (chkS s)], m) := by
  have hc := fun m => rcheck_c nl ex sz s hs m
  refine call_P lp_ref12_Fewest rfl (by simp [LV.pures, LV.pure]) (m1 := []) ?_ (by simp [LV.pures, LV.pure]) m
  unfold fewV
  by_cases h1 : chkS s = 0
  · have K := okS_of h1
    obtain ⟨a, b, a', b', h2⟩ := small_gs nl ex sz K
    have g1 := fun m => (h2 m).1
    have g2 := fun m => (h2 m).2
    obtain ⟨r, hr⟩ := smallS_head s
    have h3 : (rowsL (smallS s))[0]? = some (RLn (firstS s (fun _ => 1))) := by rw [hr]; rfl
    have h4 : 0 < (smallS s).length := by rw [hr]; simp
    rw [if_pos h1]
    simp only [ref12_Fewest, ref12_Fewest.B, beqT, beqF, exF_seq, exF_region, exF_block, exF_cond, exF_ret, exF_exit, exF_skip, runL, wantL, stepL, evL, LEnv.at, putL, loadFine, loadL, cellsAt, Trk.putNew, Trk.up, Trk.touch, Trk.gives, Trk.calm, Trk.hit, opdsOf, Trk.fresh, LEnv.keep, LEnv.ofFrom, List.map_cons, List.map_nil, nbeq, nble, nblt, ofAV, ofAVs, lenL, bin_add, bin_sub, bin_mul, bin_eql, bin_neq, bin_lss, bin_leq, bin_gtr, bin_geq, natL_nat, natL_zero, natL_one, natL_two, Nat.zero_mul, List.any_cons, List.any_nil, Bool.or_false, Bool.false_or, Bool.true_or, Bool.or_true, Bool.and_true, Bool.true_and, Bool.and_false, Bool.false_and, Bool.not_true, Bool.not_false, Nat.reduceBEq, Nat.reduceEqDiff, decide_true, decide_false, cond_true, cond_false, List.filter_nil, List.filter_cons, Nat.reduceAdd, Nat.reduceLeDiff, reduceCtorEq, List.length_nil, List.length_cons, Nat.mul_one, if_true, if_false, Bool.false_eq_true, eq_self, and_true, true_and, retL, resultsL, resAllL, resOfL, List.append_nil, List.nil_append, List.cons_append, true_or, or_true, false_or, or_false, false_and, and_false, not_true_eq_false, not_false_eq_true, ne_eq, unL, trim_nil, views_pures, LV.pures, LV.pure, freeze, Nat.reduceDiv, Int.reduceEq, Int.reduceLT, Int.reduceLE, Int.natCast_zero, LV.cells, allocL, List.getElem?_cons_zero, List.getElem?_cons_succ, storeL, spliceL, List.take_zero, List.take_succ_cons, List.drop_zero, List.drop_succ_cons, List.drop_nil, List.take_nil, Nat.le_refl, Nat.reduceMul, List.set_cons_zero, List.set_cons_succ, LV.scalar, List.all_cons, List.all_nil, Nat.lt_add_one, Nat.zero_lt_one, Nat.reduceLT, Nat.lt_irrefl, fillL, List.length_append, foldIntL, kind_beq, pures_int, solids_int, plains_int, unders_int, scalars_int, hc, h1, g1, g2, h4, h3]
  · rw [if_neg h1]
    simp only [ref12_Fewest, ref12_Fewest.B, beqT, beqF, exF_seq, exF_region, exF_block, exF_cond, exF_ret, exF_exit, exF_skip, runL, wantL, stepL, evL, LEnv.at, putL, loadFine, loadL, cellsAt, Trk.putNew, Trk.up, Trk.touch, Trk.gives, Trk.calm, Trk.hit, opdsOf, Trk.fresh, LEnv.keep, LEnv.ofFrom, List.map_cons, List.map_nil, nbeq, nble, nblt, ofAV, ofAVs, lenL, bin_add, bin_sub, bin_mul, bin_eql, bin_neq, bin_lss, bin_leq, bin_gtr, bin_geq, natL_nat, natL_zero, natL_one, natL_two, Nat.zero_mul, List.any_cons, List.any_nil, Bool.or_false, Bool.false_or, Bool.true_or, Bool.or_true, Bool.and_true, Bool.true_and, Bool.and_false, Bool.false_and, Bool.not_true, Bool.not_false, Nat.reduceBEq, Nat.reduceEqDiff, decide_true, decide_false, cond_true, cond_false, List.filter_nil, List.filter_cons, Nat.reduceAdd, Nat.reduceLeDiff, reduceCtorEq, List.length_nil, List.length_cons, Nat.mul_one, if_true, if_false, Bool.false_eq_true, eq_self, and_true, true_and, retL, resultsL, resAllL, resOfL, List.append_nil, List.nil_append, List.cons_append, true_or, or_true, false_or, or_false, false_and, and_false, not_true_eq_false, not_false_eq_true, ne_eq, unL, trim_nil, views_pures, LV.pures, LV.pure, freeze, Nat.reduceDiv, Int.reduceEq, Int.reduceLT, Int.reduceLE, Int.natCast_zero, LV.cells, allocL, List.getElem?_cons_zero, List.getElem?_cons_succ, storeL, spliceL, List.take_zero, List.take_succ_cons, List.drop_zero, List.drop_succ_cons, List.drop_nil, List.take_nil, Nat.le_refl, Nat.reduceMul, List.set_cons_zero, List.set_cons_succ, LV.scalar, List.all_cons, List.all_nil, Nat.lt_add_one, Nat.zero_lt_one, Nat.reduceLT, Nat.lt_irrefl, fillL, List.length_append, foldIntL, kind_beq, pures_int, solids_int, plains_int, unders_int, scalars_int, hc, h1]
    rfl

/-! ### Cheapest -/
def minF : Int → List Int → Int
  | x, [] => x
  | x, y :: r => minF (if y < x then y else x) r
def maxF : Int → List Int → Int
  | x, [] => x
  | x, y :: r => maxF (if y > x then y else x) r
theorem minF_lt (c : Int) : ∀ (l : List Int) (x : Int), minF x l < c ↔ x < c ∨ ∃ y ∈ l, y < c
  | [], x => by simp [minF]
  | y :: r, x => by
    rw [minF, minF_lt c r]
    simp only [List.mem_cons, exists_eq_or_imp]
    by_cases h : y < x
    · rw [if_pos h]
      constructor
      · rintro (a | a)
        · exact .inr (.inl a)
        · exact .inr (.inr a)
      · rintro (a | a | a)
        · exact .inl (by omega)
        · exact .inl a
        · exact .inr a
    · rw [if_neg h]
      constructor
      · rintro (a | a)
        · exact .inl a
        · exact .inr (.inr a)
      · rintro (a | a | a)
        · exact .inl a
        · exact .inl (by omega)
        · exact .inr a
theorem maxF_gt (c : Int) : ∀ (l : List Int) (x : Int), c < maxF x l ↔ c < x ∨ ∃ y ∈ l, c < y
  | [], x => by simp [maxF]
  | y :: r, x => by
    rw [maxF, maxF_gt c r]
    simp only [List.mem_cons, exists_eq_or_imp]
    by_cases h : y > x
    · rw [if_pos h]
      constructor
      · rintro (a | a)
        · exact .inr (.inl a)
        · exact .inr (.inr a)
      · rintro (a | a | a)
        · exact .inl (by omega)
        · exact .inl a
        · exact .inr a
    · rw [if_neg h]
      constructor
      · rintro (a | a)
        · exact .inl a
        · exact .inr (.inr a)
      · rintro (a | a | a)
        · exact .inl a
        · exact .inl (by omega)
        · exact .inr a
theorem min_loop (nl ex : Bool) (sz : Nat) (l : List Int) (hl : l.length < 1000000) (n : Nat) : ∀ (k : Nat) (x : Int), k + n = l.length →
    exF LP slices_Min_int_int.L0 [(0, IL nl ex sz l), (3, .int .i64 x), (4, .int .i64 (k : Int))] [] = some (.exit 0, [(3, .int .i64 (minF x (l.drop k)))], []) := by
  induction n with
  | zero =>
    intro k x hk
    rw [slices_Min_int_int.L0_eq]
    simp only [slices_Min_int_int.B0, beqT, beqF, exF_seq, exF_region, exF_block, exF_cond, exF_ret, exF_exit, exF_skip, runL, wantL, stepL, evL, LEnv.at, putL, loadFine, loadL, cellsAt, Trk.putNew, Trk.up, Trk.touch, Trk.gives, Trk.calm, Trk.hit, opdsOf, Trk.fresh, LEnv.keep, LEnv.ofFrom, List.map_cons, List.map_nil, nbeq, nble, nblt, ofAV, ofAVs, lenL, bin_add, bin_sub, bin_mul, bin_eql, bin_neq, bin_lss, bin_leq, bin_gtr, bin_geq, natL_nat, natL_zero, natL_one, natL_two, Nat.zero_mul, List.any_cons, List.any_nil, Bool.or_false, Bool.false_or, Bool.true_or, Bool.or_true, Bool.and_true, Bool.true_and, Bool.and_false, Bool.false_and, Bool.not_true, Bool.not_false, Nat.reduceBEq, Nat.reduceEqDiff, decide_true, decide_false, cond_true, cond_false, List.filter_nil, List.filter_cons, Nat.reduceAdd, Nat.reduceLeDiff, reduceCtorEq, List.length_nil, List.length_cons, Nat.mul_one, if_true, if_false, Bool.false_eq_true, eq_self, and_true, true_and, retL, resultsL, resAllL, resOfL, List.append_nil, List.nil_append, List.cons_append, true_or, or_true, false_or, or_false, false_and, and_false, not_true_eq_false, not_false_eq_true, ne_eq, unL, trim_nil, views_pures, LV.pures, LV.pure, freeze, Nat.reduceDiv, Int.reduceEq, Int.reduceLT, Int.reduceLE, Int.natCast_zero, LV.cells, allocL, List.getElem?_cons_zero, List.getElem?_cons_succ, storeL, spliceL, List.take_zero, List.take_succ_cons, List.drop_zero, List.drop_succ_cons, List.drop_nil, List.take_nil, Nat.le_refl, Nat.reduceMul, List.set_cons_zero, List.set_cons_succ, LV.scalar, List.all_cons, List.all_nil, Nat.lt_add_one, Nat.zero_lt_one, Nat.reduceLT, Nat.lt_irrefl, fillL, List.length_append, foldIntL, kind_beq, pures_int, solids_int, plains_int, unders_int, scalars_int, show ¬ ((k : Int) < (l.length : Int)) by omega, List.drop_eq_nil_of_le (show l.length ≤ k by omega), minF]
  | succ n ih =>
    intro k x hk
    have h2 : k < l.length := by omega
    have ih := ih (k + 1) (if l[k] < x then l[k] else x) (by omega)
    rw [slices_Min_int_int.L0_eq, List.drop_eq_getElem_cons h2, minF]
    simp only [slices_Min_int_int.B0, beqT, beqF, exF_seq, exF_region, exF_block, exF_cond, exF_ret, exF_exit, exF_skip, runL, wantL, stepL, evL, LEnv.at, putL, loadFine, loadL, cellsAt, Trk.putNew, Trk.up, Trk.touch, Trk.gives, Trk.calm, Trk.hit, opdsOf, Trk.fresh, LEnv.keep, LEnv.ofFrom, List.map_cons, List.map_nil, nbeq, nble, nblt, ofAV, ofAVs, lenL, bin_add, bin_sub, bin_mul, bin_eql, bin_neq, bin_lss, bin_leq, bin_gtr, bin_geq, natL_nat, natL_zero, natL_one, natL_two, Nat.zero_mul, List.any_cons, List.any_nil, Bool.or_false, Bool.false_or, Bool.true_or, Bool.or_true, Bool.and_true, Bool.true_and, Bool.and_false, Bool.false_and, Bool.not_true, Bool.not_false, Nat.reduceBEq, Nat.reduceEqDiff, decide_true, decide_false, cond_true, cond_false, List.filter_nil, List.filter_cons, Nat.reduceAdd, Nat.reduceLeDiff, reduceCtorEq, List.length_nil, List.length_cons, Nat.mul_one, if_true, if_false, Bool.false_eq_true, eq_self, and_true, true_and, retL, resultsL, resAllL, resOfL, List.append_nil, List.nil_append, List.cons_append, true_or, or_true, false_or, or_false, false_and, and_false, not_true_eq_false, not_false_eq_true, ne_eq, unL, trim_nil, views_pures, LV.pures, LV.pure, freeze, Nat.reduceDiv, Int.reduceEq, Int.reduceLT, Int.reduceLE, Int.natCast_zero, LV.cells, allocL, List.getElem?_cons_zero, List.getElem?_cons_succ, storeL, spliceL, List.take_zero, List.take_succ_cons, List.drop_zero, List.drop_succ_cons, List.drop_nil, List.take_nil, Nat.le_refl, Nat.reduceMul, List.set_cons_zero, List.set_cons_succ, LV.scalar, List.all_cons, List.all_nil, Nat.lt_add_one, Nat.zero_lt_one, Nat.reduceLT, Nat.lt_irrefl, fillL, List.length_append, foldIntL, kind_beq, pures_int, solids_int, plains_int, unders_int, scalars_int, show ((k : Int) < (l.length : Int)) by omega, h2, int_at _ _ _ h2, wrap_succ (show k + 1 < 9223372036854775808 by omega), ih]
theorem min_c (nl ex : Bool) (sz : Nat) (x : Int) (r : List Int) (hl : (x :: r).length < 1000000) (m : LMem) : clF LP n_slices_Min_int_int [IL nl ex sz (x :: r)] m = some (.P, .int .i64 (minF x r), m) := by
  refine call_P lp_slices_Min_int_int rfl (by simp [LV.pures, LV.pure]) (m1 := []) ?_ rfl m
  have h := min_loop nl ex sz (x :: r) hl r.length 1 x (by simp; omega)
  simp only [Int.natCast_one, List.drop_succ_cons, List.drop_zero] at h
  have h1 : ¬ ((x :: r).length : Int) < 1 := by simp; omega
  have h2 : 0 < (x :: r).length := by simp
  have h3 : ((x :: r).map (LV.int .i64))[0]? = some (.int .i64 x) := rfl
  generalize (x :: r) = l at *
  simp only [slices_Min_int_int, slices_Min_int_int.B, beqT, beqF, exF_seq, exF_region, exF_block, exF_cond, exF_ret, exF_exit, exF_skip, runL, wantL, stepL, evL, LEnv.at, putL, loadFine, loadL, cellsAt, Trk.putNew, Trk.up, Trk.touch, Trk.gives, Trk.calm, Trk.hit, opdsOf, Trk.fresh, LEnv.keep, LEnv.ofFrom, List.map_cons, List.map_nil, nbeq, nble, nblt, ofAV, ofAVs, lenL, bin_add, bin_sub, bin_mul, bin_eql, bin_neq, bin_lss, bin_leq, bin_gtr, bin_geq, natL_nat, natL_zero, natL_one, natL_two, Nat.zero_mul, List.any_cons, List.any_nil, Bool.or_false, Bool.false_or, Bool.true_or, Bool.or_true, Bool.and_true, Bool.true_and, Bool.and_false, Bool.false_and, Bool.not_true, Bool.not_false, Nat.reduceBEq, Nat.reduceEqDiff, decide_true, decide_false, cond_true, cond_false, List.filter_nil, List.filter_cons, Nat.reduceAdd, Nat.reduceLeDiff, reduceCtorEq, List.length_nil, List.length_cons, Nat.mul_one, if_true, if_false, Bool.false_eq_true, eq_self, and_true, true_and, retL, resultsL, resAllL, resOfL, List.append_nil, List.nil_append, List.cons_append, true_or, or_true, false_or, or_false, false_and, and_false, not_true_eq_false, not_false_eq_true, ne_eq, unL, trim_nil, views_pures, LV.pures, LV.pure, freeze, Nat.reduceDiv, Int.reduceEq, Int.reduceLT, Int.reduceLE, Int.natCast_zero, LV.cells, allocL, List.getElem?_cons_zero, List.getElem?_cons_succ, storeL, spliceL, List.take_zero, List.take_succ_cons, List.drop_zero, List.drop_succ_cons, List.drop_nil, List.take_nil, Nat.le_refl, Nat.reduceMul, List.set_cons_zero, List.set_cons_succ, LV.scalar, List.all_cons, List.all_nil, Nat.lt_add_one, Nat.zero_lt_one, Nat.reduceLT, Nat.lt_irrefl, fillL, List.length_append, foldIntL, kind_beq, pures_int, solids_int, plains_int, unders_int, scalars_int, h1, h2, h3, h]
theorem max_loop (nl ex : Bool) (sz : Nat) (l : List Int) (hl : l.length < 1000000) (n : Nat) : ∀ (k : Nat) (x : Int), k + n = l.length →
    exF LP slices_Max_int_int.L0 [(0, IL nl ex sz l), (3, .int .i64 x), (4, .int .i64 (k : Int))] [] = some (.exit 0, [(3, .int .i64 (maxF x (l.drop k)))], []) := by
  induction n with
  | zero =>
    intro k x hk
    rw [slices_Max_int_int.L0_eq]
    simp only [slices_Max_int_int.B0, beqT, beqF, exF_seq, exF_region, exF_block, exF_cond, exF_ret, exF_exit, exF_skip, runL, wantL, stepL, evL, LEnv.at, putL, loadFine, loadL, cellsAt, Trk.putNew, Trk.up, Trk.touch, Trk.gives, Trk.calm, Trk.hit, opdsOf, Trk.fresh, LEnv.keep, LEnv.ofFrom, List.map_cons, List.map_nil, nbeq, nble, nblt, ofAV, ofAVs, lenL, bin_add, bin_sub, bin_mul, bin_eql, bin_neq, bin_lss, bin_leq, bin_gtr, bin_geq, natL_nat, natL_zero, natL_one, natL_two, Nat.zero_mul, List.any_cons, List.any_nil, Bool.or_false, Bool.false_or, Bool.true_or, Bool.or_true, Bool.and_true, Bool.true_and, Bool.and_false, Bool.false_and, Bool.not_true, Bool.not_false, Nat.reduceBEq, Nat.reduceEqDiff, decide_true, decide_false, cond_true, cond_false, List.filter_nil, List.filter_cons, Nat.reduceAdd, Nat.reduceLeDiff, reduceCtorEq, List.length_nil, List.length_cons, Nat.mul_one, if_true, if_false, Bool.false_eq_true, eq_self, and_true, true_and, retL, resultsL, resAllL, resOfL, List.append_nil, List.nil_append, List.cons_append, true_or, or_true, false_or, or_false, false_and, and_false, not_true_eq_false, not_false_eq_true, ne_eq, unL, trim_nil, views_pures, LV.pures, LV.pure, freeze, Nat.reduceDiv, Int.reduceEq, Int.reduceLT, Int.reduceLE, Int.natCast_zero, LV.cells, allocL, List.getElem?_cons_zero, List.getElem?_cons_succ, storeL, spliceL, List.take_zero, List.take_succ_cons, List.drop_zero, List.drop_succ_cons, List.drop_nil, List.take_nil, Nat.le_refl, Nat.reduceMul, List.set_cons_zero, List.set_cons_succ, LV.scalar, List.all_cons, List.all_nil, Nat.lt_add_one, Nat.zero_lt_one, Nat.reduceLT, Nat.lt_irrefl, fillL, List.length_append, foldIntL, kind_beq, pures_int, solids_int, plains_int, unders_int, scalars_int, show ¬ ((k : Int) < (l.length : Int)) by omega, List.drop_eq_nil_of_le (show l.length ≤ k by omega), maxF]
  | succ n ih =>
    intro k x hk
    have h2 : k < l.length := by omega
    have ih := ih (k + 1) (if l[k] > x then l[k] else x) (by omega)
    rw [slices_Max_int_int.L0_eq, List.drop_eq_getElem_cons h2, maxF]
    simp only [slices_Max_int_int.B0, beqT, beqF, exF_seq, exF_region, exF_block, exF_cond, exF_ret, exF_exit, exF_skip, runL, wantL, stepL, evL, LEnv.at, putL, loadFine, loadL, cellsAt, Trk.putNew, Trk.up, Trk.touch, Trk.gives, Trk.calm, Trk.hit, opdsOf, Trk.fresh, LEnv.keep, LEnv.ofFrom, List.map_cons, List.map_nil, nbeq, nble, nblt, ofAV, ofAVs, lenL, bin_add, bin_sub, bin_mul, bin_eql, bin_neq, bin_lss, bin_leq, bin_gtr, bin_geq, natL_nat, natL_zero, natL_one, natL_two, Nat.zero_mul, List.any_cons, List.any_nil, Bool.or_false, Bool.false_or, Bool.true_or, Bool.or_true, Bool.and_true, Bool.true_and, Bool.and_false, Bool.false_and, Bool.not_true, Bool.not_false, Nat.reduceBEq, Nat.reduceEqDiff, decide_true, decide_false, cond_true, cond_false, List.filter_nil, List.filter_cons, Nat.reduceAdd, Nat.reduceLeDiff, reduceCtorEq, List.length_nil, List.length_cons, Nat.mul_one, if_true, if_false, Bool.false_eq_true, eq_self, and_true, true_and, retL, resultsL, resAllL, resOfL, List.append_nil, List.nil_append, List.cons_append, true_or, or_true, false_or, or_false, false_and, and_false, not_true_eq_false, not_false_eq_true, ne_eq, unL, trim_nil, views_pures, LV.pures, LV.pure, freeze, Nat.reduceDiv, Int.reduceEq, Int.reduceLT, Int.reduceLE, Int.natCast_zero, LV.cells, allocL, List.getElem?_cons_zero, List.getElem?_cons_succ, storeL, spliceL, List.take_zero, List.take_succ_cons, List.drop_zero, List.drop_succ_cons, List.drop_nil, List.take_nil, Nat.le_refl, Nat.reduceMul, List.set_cons_zero, List.set_cons_succ, LV.scalar, List.all_cons, List.all_nil, Nat.lt_add_one, Nat.zero_lt_one, Nat.reduceLT, Nat.lt_irrefl, fillL, List.length_append, foldIntL, kind_beq, pures_int, solids_int, plains_int, unders_int, scalars_int, show ((k : Int) < (l.length : Int)) by omega, h2, int_at _ _ _ h2, wrap_succ (show k + 1 < 9223372036854775808 by omega), ih]
theorem max_c (nl ex : Bool) (sz : Nat) (x : Int) (r : List Int) (hl : (x :: r).length < 1000000) (m : LMem) : clF LP n_slices_Max_int_int [IL nl ex sz (x :: r)] m = some (.P, .int .i64 (maxF x r), m) := by
  refine call_P lp_slices_Max_int_int rfl (by simp [LV.pures, LV.pure]) (m1 := []) ?_ rfl m
  have h := max_loop nl ex sz (x :: r) hl r.length 1 x (by simp; omega)
  simp only [Int.natCast_one, List.drop_succ_cons, List.drop_zero] at h
  have h1 : ¬ ((x :: r).length : Int) < 1 := by simp; omega
  have h2 : 0 < (x :: r).length := by simp
  have h3 : ((x :: r).map (LV.int .i64))[0]? = some (.int .i64 x) := rfl
  generalize (x :: r) = l at *
  simp only [slices_Max_int_int, slices_Max_int_int.B, beqT, beqF, exF_seq, exF_region, exF_block, exF_cond, exF_ret, exF_exit, exF_skip, runL, wantL, stepL, evL, LEnv.at, putL, loadFine, loadL, cellsAt, Trk.putNew, Trk.up, Trk.touch, Trk.gives, Trk.calm, Trk.hit, opdsOf, Trk.fresh, LEnv.keep, LEnv.ofFrom, List.map_cons, List.map_nil, nbeq, nble, nblt, ofAV, ofAVs, lenL, bin_add, bin_sub, bin_mul, bin_eql, bin_neq, bin_lss, bin_leq, bin_gtr, bin_geq, natL_nat, natL_zero, natL_one, natL_two, Nat.zero_mul, List.any_cons, List.any_nil, Bool.or_false, Bool.false_or, Bool.true_or, Bool.or_true, Bool.and_true, Bool.true_and, Bool.and_false, Bool.false_and, Bool.not_true, Bool.not_false, Nat.reduceBEq, Nat.reduceEqDiff, decide_true, decide_false, cond_true, cond_false, List.filter_nil, List.filter_cons, Nat.reduceAdd, Nat.reduceLeDiff, reduceCtorEq, List.length_nil, List.length_cons, Nat.mul_one, if_true, if_false, Bool.false_eq_true, eq_self, and_true, true_and, retL, resultsL, resAllL, resOfL, List.append_nil, List.nil_append, List.cons_append, true_or, or_true, false_or, or_false, false_and, and_false, not_true_eq_false, not_false_eq_true, ne_eq, unL, trim_nil, views_pures, LV.pures, LV.pure, freeze, Nat.reduceDiv, Int.reduceEq, Int.reduceLT, Int.reduceLE, Int.natCast_zero, LV.cells, allocL, List.getElem?_cons_zero, List.getElem?_cons_succ, storeL, spliceL, List.take_zero, List.take_succ_cons, List.drop_zero, List.drop_succ_cons, List.drop_nil, List.take_nil, Nat.le_refl, Nat.reduceMul, List.set_cons_zero, List.set_cons_succ, LV.scalar, List.all_cons, List.all_nil, Nat.lt_add_one, Nat.zero_lt_one, Nat.reduceLT, Nat.lt_irrefl, fillL, List.length_append, foldIntL, kind_beq, pures_int, solids_int, plains_int, unders_int, scalars_int, h1, h2, h3, h]
def prC (p : List Int) (i : Nat) : Nat := (p.getD i 0).toNat
def cheapE (s p : List Int) : Int := if chkS s ≠ 0 then chkS s else if p.length ≠ s.length then 5 else if p.any (fun x => !inB 1 20 x) then 1 else 0
def cheapV (s p : List Int) : List Nat := if cheapE s p = 0 then firstS s (prC p) else []
theorem range_any (p : List Int) : (p.any fun x => !inB 1 20 x) = false ↔ ∀ x ∈ p, 1 ≤ x ∧ x ≤ 20 := by
  simp [inB]
theorem price_ok (nl ex : Bool) (p : List Int) (n : Nat) (hn : p.length = n) (h : ∀ x ∈ p, 1 ≤ x ∧ x ≤ 20) : PriceOk n_post_Cheapest_1 [.elt [IL nl ex 1 p] 0] (prC p) n := by
  refine ⟨by simp [LV.pures, LV.pure], fun i hi m => ?_, fun i hi => ?_⟩
  · have h2 : i < p.length := by omega
    have hx := h _ (List.getElem_mem h2)
    have hg : p.getD i 0 = p[i] := by simp [List.getD_eq_getElem?_getD, h2]
    have e : p[i] = ((prC p i : Nat) : Int) := by rw [prC, hg]; omega
    refine call_P lp_post_Cheapest_1 rfl (by simp [LV.pures, LV.pure]) (m1 := []) ?_ rfl m
    rw [← e]
    simp only [post_Cheapest_1, post_Cheapest_1.B, beqT, beqF, exF_seq, exF_region, exF_block, exF_cond, exF_ret, exF_exit, exF_skip, runL, wantL, stepL, evL, LEnv.at, putL, loadFine, loadL, cellsAt, Trk.putNew, Trk.up, Trk.touch, Trk.gives, Trk.calm, Trk.hit, opdsOf, Trk.fresh, LEnv.keep, LEnv.ofFrom, List.map_cons, List.map_nil, nbeq, nble, nblt, ofAV, ofAVs, lenL, bin_add, bin_sub, bin_mul, bin_eql, bin_neq, bin_lss, bin_leq, bin_gtr, bin_geq, natL_nat, natL_zero, natL_one, natL_two, Nat.zero_mul, List.any_cons, List.any_nil, Bool.or_false, Bool.false_or, Bool.true_or, Bool.or_true, Bool.and_true, Bool.true_and, Bool.and_false, Bool.false_and, Bool.not_true, Bool.not_false, Nat.reduceBEq, Nat.reduceEqDiff, decide_true, decide_false, cond_true, cond_false, List.filter_nil, List.filter_cons, Nat.reduceAdd, Nat.reduceLeDiff, reduceCtorEq, List.length_nil, List.length_cons, Nat.mul_one, if_true, if_false, Bool.false_eq_true, eq_self, and_true, true_and, retL, resultsL, resAllL, resOfL, List.append_nil, List.nil_append, List.cons_append, true_or, or_true, false_or, or_false, false_and, and_false, not_true_eq_false, not_false_eq_true, ne_eq, unL, trim_nil, views_pures, LV.pures, LV.pure, freeze, Nat.reduceDiv, Int.reduceEq, Int.reduceLT, Int.reduceLE, Int.natCast_zero, LV.cells, allocL, List.getElem?_cons_zero, List.getElem?_cons_succ, storeL, spliceL, List.take_zero, List.take_succ_cons, List.drop_zero, List.drop_succ_cons, List.drop_nil, List.take_nil, Nat.le_refl, Nat.reduceMul, List.set_cons_zero, List.set_cons_succ, LV.scalar, List.all_cons, List.all_nil, Nat.lt_add_one, Nat.zero_lt_one, Nat.reduceLT, Nat.lt_irrefl, fillL, List.length_append, foldIntL, kind_beq, pures_int, solids_int, plains_int, unders_int, scalars_int, h2, int_at _ _ _ h2]
  · have h2 : i < p.length := by omega
    have hx := h _ (List.getElem_mem h2)
    rw [prC, show p.getD i 0 = p[i] by simp [List.getD_eq_getElem?_getD, h2]]; omega
theorem cheapP_c (nl ex nl' ex' : Bool) (sz : Nat) (s p : List Int) (hs : s.length < 1000000) (hp : p.length < 1000000) (m : LMem) : clF LP n_post_Cheapest [IL nl ex sz s, IL nl' ex' 1 p] m = some (.P, .tup [RLn (cheapV s p), .int .i64 (cheapE s p)], m) := by
  have hc := fun m => check_c nl ex sz s hs m
  unfold cheapV
  by_cases h1 : chkS s = 0
  · have K := okS_of h1
    by_cases h2 : p.length = s.length
    · have h2' : (p.length : Int) = (s.length : Int) := by omega
      have hpos := K.pos
      obtain ⟨x, r, rfl⟩ : ∃ x r, p = x :: r := by
        cases p with
        | nil => simp at h2; omega
        | cons x r => exact ⟨x, r, rfl⟩
      have hmin := fun m => min_c nl' ex' 1 x r hp m
      have hmax := fun m => max_c nl' ex' 1 x r hp m
      have e0 : cheapE s (x :: r) = if (x :: r).any (fun x => !inB 1 20 x) then 1 else 0 := by
        unfold cheapE; rw [if_neg (by simpa using h1), if_neg (by simpa using h2)]
      have emin : (minF x r < 1) ↔ ∃ y ∈ x :: r, y < 1 := by rw [minF_lt]; simp
      have emax : (20 < maxF x r) ↔ ∃ y ∈ x :: r, 20 < y := by rw [maxF_gt]; simp
      generalize (x :: r) = p at *
      rw [e0]
      by_cases c1 : minF x r < 1
      · have : p.any (fun x => !inB 1 20 x) = true := by
          obtain ⟨y, hy, h⟩ := emin.1 c1
          rw [List.any_eq_true]; exact ⟨y, hy, by simp [inB]; omega⟩
        rw [this, if_pos rfl, if_neg (by omega)]
        refine call_P lp_post_Cheapest rfl (by simp [LV.pures, LV.pure]) (m1 := [⟨[IL nl' ex' 1 p], true⟩]) ?_ (by simp [LV.pures, LV.pure]) m
        simp only [post_Cheapest, post_Cheapest.B, beqT, beqF, exF_seq, exF_region, exF_block, exF_cond, exF_ret, exF_exit, exF_skip, runL, wantL, stepL, evL, LEnv.at, putL, loadFine, loadL, cellsAt, Trk.putNew, Trk.up, Trk.touch, Trk.gives, Trk.calm, Trk.hit, opdsOf, Trk.fresh, LEnv.keep, LEnv.ofFrom, List.map_cons, List.map_nil, nbeq, nble, nblt, ofAV, ofAVs, lenL, bin_add, bin_sub, bin_mul, bin_eql, bin_neq, bin_lss, bin_leq, bin_gtr, bin_geq, natL_nat, natL_zero, natL_one, natL_two, Nat.zero_mul, List.any_cons, List.any_nil, Bool.or_false, Bool.false_or, Bool.true_or, Bool.or_true, Bool.and_true, Bool.true_and, Bool.and_false, Bool.false_and, Bool.not_true, Bool.not_false, Nat.reduceBEq, Nat.reduceEqDiff, decide_true, decide_false, cond_true, cond_false, List.filter_nil, List.filter_cons, Nat.reduceAdd, Nat.reduceLeDiff, reduceCtorEq, List.length_nil, List.length_cons, Nat.mul_one, if_true, if_false, Bool.false_eq_true, eq_self, and_true, true_and, retL, resultsL, resAllL, resOfL, List.append_nil, List.nil_append, List.cons_append, true_or, or_true, false_or, or_false, false_and, and_false, not_true_eq_false, not_false_eq_true, ne_eq, unL, trim_nil, views_pures, LV.pures, LV.pure, freeze, Nat.reduceDiv, Int.reduceEq, Int.reduceLT, Int.reduceLE, Int.natCast_zero, LV.cells, allocL, List.getElem?_cons_zero, List.getElem?_cons_succ, storeL, spliceL, List.take_zero, List.take_succ_cons, List.drop_zero, List.drop_succ_cons, List.drop_nil, List.take_nil, Nat.le_refl, Nat.reduceMul, List.set_cons_zero, List.set_cons_succ, LV.scalar, List.all_cons, List.all_nil, Nat.lt_add_one, Nat.zero_lt_one, Nat.reduceLT, Nat.lt_irrefl, fillL, List.length_append, foldIntL, kind_beq, pures_int, solids_int, plains_int, unders_int, scalars_int, hc, h1, h2', hmin, c1]
        rfl
      · by_cases c2 : 20 < maxF x r
        · have : p.any (fun x => !inB 1 20 x) = true := by
            obtain ⟨y, hy, h⟩ := emax.1 c2
            rw [List.any_eq_true]; exact ⟨y, hy, by simp [inB]; omega⟩
          rw [this, if_pos rfl, if_neg (by omega)]
          refine call_P lp_post_Cheapest rfl (by simp [LV.pures, LV.pure]) (m1 := [⟨[IL nl' ex' 1 p], true⟩]) ?_ (by simp [LV.pures, LV.pure]) m
          simp only [post_Cheapest, post_Cheapest.B, beqT, beqF, exF_seq, exF_region, exF_block, exF_cond, exF_ret, exF_exit, exF_skip, runL, wantL, stepL, evL, LEnv.at, putL, loadFine, loadL, cellsAt, Trk.putNew, Trk.up, Trk.touch, Trk.gives, Trk.calm, Trk.hit, opdsOf, Trk.fresh, LEnv.keep, LEnv.ofFrom, List.map_cons, List.map_nil, nbeq, nble, nblt, ofAV, ofAVs, lenL, bin_add, bin_sub, bin_mul, bin_eql, bin_neq, bin_lss, bin_leq, bin_gtr, bin_geq, natL_nat, natL_zero, natL_one, natL_two, Nat.zero_mul, List.any_cons, List.any_nil, Bool.or_false, Bool.false_or, Bool.true_or, Bool.or_true, Bool.and_true, Bool.true_and, Bool.and_false, Bool.false_and, Bool.not_true, Bool.not_false, Nat.reduceBEq, Nat.reduceEqDiff, decide_true, decide_false, cond_true, cond_false, List.filter_nil, List.filter_cons, Nat.reduceAdd, Nat.reduceLeDiff, reduceCtorEq, List.length_nil, List.length_cons, Nat.mul_one, if_true, if_false, Bool.false_eq_true, eq_self, and_true, true_and, retL, resultsL, resAllL, resOfL, List.append_nil, List.nil_append, List.cons_append, true_or, or_true, false_or, or_false, false_and, and_false, not_true_eq_false, not_false_eq_true, ne_eq, unL, trim_nil, views_pures, LV.pures, LV.pure, freeze, Nat.reduceDiv, Int.reduceEq, Int.reduceLT, Int.reduceLE, Int.natCast_zero, LV.cells, allocL, List.getElem?_cons_zero, List.getElem?_cons_succ, storeL, spliceL, List.take_zero, List.take_succ_cons, List.drop_zero, List.drop_succ_cons, List.drop_nil, List.take_nil, Nat.le_refl, Nat.reduceMul, List.set_cons_zero, List.set_cons_succ, LV.scalar, List.all_cons, List.all_nil, Nat.lt_add_one, Nat.zero_lt_one, Nat.reduceLT, Nat.lt_irrefl, fillL, List.length_append, foldIntL, kind_beq, pures_int, solids_int, plains_int, unders_int, scalars_int, hc, h1, h2', hmin, c1, hmax, c2]
          rfl
        · have hr : ∀ x ∈ p, 1 ≤ x ∧ x ≤ 20 := fun y hy => ⟨by
            by_cases c : y < 1
            · exact absurd (emin.2 ⟨y, hy, c⟩) c1
            · omega, by
            by_cases c : 20 < y
            · exact absurd (emax.2 ⟨y, hy, c⟩) c2
            · omega⟩
          simp only [(range_any p).2 hr, Bool.false_eq_true, if_false, if_true]
          have hP := price_ok nl' ex' p s.length h2 hr
          have hf := fun m => first_c n_post_Cheapest_1 [.elt [IL nl' ex' 1 p] 0] (prC p) nl ex sz K hP m
          rw [first_eq K _ _ (prC p) hP.le] at hf
          have hv : views [⟨[IL nl' ex' 1 p], true⟩] [IL nl ex sz s, .func n_post_Cheapest_1 [] [.ptr 0 0 1]] = some ([IL nl ex sz s, .func n_post_Cheapest_1 [] [.elt [IL nl' ex' 1 p] 0]], [0]) :=
            views_snd8 24 _ _ _ _ _ (fun k => view_fun1 k _ _ 0 1 _ true rfl rfl rfl) rfl (by simp [LV.pures, LV.pure])
          obtain ⟨m', hk, _, _⟩ := call_shown lp_post_first rfl hv (by simp [LV.pures, LV.pure]) (hf [])
          refine call_P lp_post_Cheapest rfl (by simp [LV.pures, LV.pure]) (m1 := m') ?_ (by simp [LV.pures, LV.pure]) m
          simp only [post_Cheapest, post_Cheapest.B, beqT, beqF, exF_seq, exF_region, exF_block, exF_cond, exF_ret, exF_exit, exF_skip, runL, wantL, stepL, evL, LEnv.at, putL, loadFine, loadL, cellsAt, Trk.putNew, Trk.up, Trk.touch, Trk.gives, Trk.calm, Trk.hit, opdsOf, Trk.fresh, LEnv.keep, LEnv.ofFrom, List.map_cons, List.map_nil, nbeq, nble, nblt, ofAV, ofAVs, lenL, bin_add, bin_sub, bin_mul, bin_eql, bin_neq, bin_lss, bin_leq, bin_gtr, bin_geq, natL_nat, natL_zero, natL_one, natL_two, Nat.zero_mul, List.any_cons, List.any_nil, Bool.or_false, Bool.false_or, Bool.true_or, Bool.or_true, Bool.and_true, Bool.true_and, Bool.and_false, Bool.false_and, Bool.not_true, Bool.not_false, Nat.reduceBEq, Nat.reduceEqDiff, decide_true, decide_false, cond_true, cond_false, List.filter_nil, List.filter_cons, Nat.reduceAdd, Nat.reduceLeDiff, reduceCtorEq, List.length_nil, List.length_cons, Nat.mul_one, if_true, if_false, Bool.false_eq_true, eq_self, and_true, true_and, retL, resultsL, resAllL, resOfL, List.append_nil, List.nil_append, List.cons_append, true_or, or_true, false_or, or_false, false_and, and_false, not_true_eq_false, not_false_eq_true, ne_eq, unL, trim_nil, views_pures, LV.pures, LV.pure, freeze, Nat.reduceDiv, Int.reduceEq, Int.reduceLT, Int.reduceLE, Int.natCast_zero, LV.cells, allocL, List.getElem?_cons_zero, List.getElem?_cons_succ, storeL, spliceL, List.take_zero, List.take_succ_cons, List.drop_zero, List.drop_succ_cons, List.drop_nil, List.take_nil, Nat.le_refl, Nat.reduceMul, List.set_cons_zero, List.set_cons_succ, LV.scalar, List.all_cons, List.all_nil, Nat.lt_add_one, Nat.zero_lt_one, Nat.reduceLT, Nat.lt_irrefl, fillL, List.length_append, foldIntL, kind_beq, pures_int, solids_int, plains_int, unders_int, scalars_int, hc, h1, h2', hmin, c1, hmax, c2, hk]
    · have h2' : ¬ (p.length : Int) = (s.length : Int) := by omega
      have e0 : cheapE s p = 5 := by unfold cheapE; rw [if_neg (by simpa using h1), if_pos (by simpa using h2)]
      rw [e0, if_neg (by omega)]
      refine call_P lp_post_Cheapest rfl (by simp [LV.pures, LV.pure]) (m1 := [⟨[IL nl' ex' 1 p], true⟩]) ?_ (by simp [LV.pures, LV.pure]) m
      simp only [post_Cheapest, post_Cheapest.B, beqT, beqF, exF_seq, exF_region, exF_block, exF_cond, exF_ret, exF_exit, exF_skip, runL, wantL, stepL, evL, LEnv.at, putL, loadFine, loadL, cellsAt, Trk.putNew, Trk.up, Trk.touch, Trk.gives, Trk.calm, Trk.hit, opdsOf, Trk.fresh, LEnv.keep, LEnv.ofFrom, List.map_cons, List.map_nil, nbeq, nble, nblt, ofAV, ofAVs, lenL, bin_add, bin_sub, bin_mul, bin_eql, bin_neq, bin_lss, bin_leq, bin_gtr, bin_geq, natL_nat, natL_zero, natL_one, natL_two, Nat.zero_mul, List.any_cons, List.any_nil, Bool.or_false, Bool.false_or, Bool.true_or, Bool.or_true, Bool.and_true, Bool.true_and, Bool.and_false, Bool.false_and, Bool.not_true, Bool.not_false, Nat.reduceBEq, Nat.reduceEqDiff, decide_true, decide_false, cond_true, cond_false, List.filter_nil, List.filter_cons, Nat.reduceAdd, Nat.reduceLeDiff, reduceCtorEq, List.length_nil, List.length_cons, Nat.mul_one, if_true, if_false, Bool.false_eq_true, eq_self, and_true, true_and, retL, resultsL, resAllL, resOfL, List.append_nil, List.nil_append, List.cons_append, true_or, or_true, false_or, or_false, false_and, and_false, not_true_eq_false, not_false_eq_true, ne_eq, unL, trim_nil, views_pures, LV.pures, LV.pure, freeze, Nat.reduceDiv, Int.reduceEq, Int.reduceLT, Int.reduceLE, Int.natCast_zero, LV.cells, allocL, List.getElem?_cons_zero, List.getElem?_cons_succ, storeL, spliceL, List.take_zero, List.take_succ_cons, List.drop_zero, List.drop_succ_cons, List.drop_nil, List.take_nil, Nat.le_refl, Nat.reduceMul, List.set_cons_zero, List.set_cons_succ, LV.scalar, List.all_cons, List.all_nil, Nat.lt_add_one, Nat.zero_lt_one, Nat.reduceLT, Nat.lt_irrefl, fillL, List.length_append, foldIntL, kind_beq, pures_int, solids_int, plains_int, unders_int, scalars_int, hc, h1, h2']
      rfl
  · have e0 : cheapE s p = chkS s := by unfold cheapE; rw [if_pos (by simpa using h1)]
    rw [e0, if_neg h1]
    refine call_P lp_post_Cheapest rfl (by simp [LV.pures, LV.pure]) (m1 := [⟨[IL nl' ex' 1 p], true⟩]) ?_ (by simp [LV.pures, LV.pure]) m
    simp only [post_Cheapest, post_Cheapest.B, beqT, beqF, exF_seq, exF_region, exF_block, exF_cond, exF_ret, exF_exit, exF_skip, runL, wantL, stepL, evL, LEnv.at, putL, loadFine, loadL, cellsAt, Trk.putNew, Trk.up, Trk.touch, Trk.gives, Trk.calm, Trk.hit, opdsOf, Trk.fresh, LEnv.keep, LEnv.ofFrom, List.map_cons, List.map_nil, nbeq, nble, nblt, ofAV, ofAVs, lenL, bin_add, bin_sub, bin_mul, bin_eql, bin_neq, bin_lss, bin_leq, bin_gtr, bin_geq, natL_nat, natL_zero, natL_one, natL_two, Nat.zero_mul, List.any_cons, List.any_nil, Bool.or_false, Bool.false_or, Bool.true_or, Bool.or_true, Bool.and_true, Bool.true_and, Bool.and_false, Bool.false_and, Bool.not_true, Bool.not_false, Nat.reduceBEq, Nat.reduceEqDiff, decide_true, decide_false, cond_true, cond_false, List.filter_nil, List.filter_cons, Nat.reduceAdd, Nat.reduceLeDiff, reduceCtorEq, List.length_nil, List.length_cons, Nat.mul_one, if_true, if_false, Bool.false_eq_true, eq_self, and_true, true_and, retL, resultsL, resAllL, resOfL, List.append_nil, List.nil_append, List.cons_append, true_or, or_true, false_or, or_false, false_and, and_false, not_true_eq_false, not_false_eq_true, ne_eq, unL, trim_nil, views_pures, LV.pures, LV.pure, freeze, Nat.reduceDiv, Int.reduceEq, Int.reduceLT, Int.reduceLE, Int.natCast_zero, LV.cells, allocL, List.getElem?_cons_zero, List.getElem?_cons_succ, storeL, spliceL, List.take_zero, List.take_succ_cons, List.drop_zero, List.drop_succ_cons, List.drop_nil, List.take_nil, Nat.le_refl, Nat.reduceMul, List.set_cons_zero, List.set_cons_succ, LV.scalar, List.all_cons, List.all_nil, Nat.lt_add_one, Nat.zero_lt_one, Nat.reduceLT, Nat.lt_irrefl, fillL, List.length_append, foldIntL, kind_beq, pures_int, solids_int, plains_int, unders_int, scalars_int, hc, h1]
    rfl

/-! ### The reference's -/
theorem cost_cons (price : Nat → Nat) (x : Nat) (r : List Nat) : cost price (x :: r) = price x + cost price r := by simp [cost]
theorem rcost_loop (nl ex nl' ex' : Bool) (sz sz' : Nat) (p : List Int) (hr : ∀ x ∈ p, 1 ≤ x ∧ x ≤ 20) (q : List Nat) (hq : ∀ x ∈ q, x < p.length) (hl : q.length ≤ 1000) (n : Nat) : ∀ (k a : Nat), k + n = q.length → a ≤ 20 * k →
    exF LP ref12_cost.L0 [(0, IL nl ex sz p), (1, IL nl' ex' sz' (ci q)), (5, .int .i64 (a : Int)), (6, .int .i64 (k : Int))] [] = some (.exit 0, [(5, .int .i64 ((a + cost (prC p) (q.drop k) : Nat) : Int))], []) := by
  have hcl : (ci q).length = q.length := by simp
  have hcm : (ci q).map (LV.int .i64) = q.map fun y : Nat => LV.int .i64 (y : Int) := by simp
  induction n with
  | zero =>
    intro k a hk ha
    rw [ref12_cost.L0_eq]
    simp only [ref12_cost.B0, beqT, beqF, exF_seq, exF_region, exF_block, exF_cond, exF_ret, exF_exit, exF_skip, runL, wantL, stepL, evL, LEnv.at, putL, loadFine, loadL, cellsAt, Trk.putNew, Trk.up, Trk.touch, Trk.gives, Trk.calm, Trk.hit, opdsOf, Trk.fresh, LEnv.keep, LEnv.ofFrom, List.map_cons, List.map_nil, nbeq, nble, nblt, ofAV, ofAVs, lenL, bin_add, bin_sub, bin_mul, bin_eql, bin_neq, bin_lss, bin_leq, bin_gtr, bin_geq, natL_nat, natL_zero, natL_one, natL_two, Nat.zero_mul, List.any_cons, List.any_nil, Bool.or_false, Bool.false_or, Bool.true_or, Bool.or_true, Bool.and_true, Bool.true_and, Bool.and_false, Bool.false_and, Bool.not_true, Bool.not_false, Nat.reduceBEq, Nat.reduceEqDiff, decide_true, decide_false, cond_true, cond_false, List.filter_nil, List.filter_cons, Nat.reduceAdd, Nat.reduceLeDiff, reduceCtorEq, List.length_nil, List.length_cons, Nat.mul_one, if_true, if_false, Bool.false_eq_true, eq_self, and_true, true_and, retL, resultsL, resAllL, resOfL, List.append_nil, List.nil_append, List.cons_append, true_or, or_true, false_or, or_false, false_and, and_false, not_true_eq_false, not_false_eq_true, ne_eq, unL, trim_nil, views_pures, LV.pures, LV.pure, freeze, Nat.reduceDiv, Int.reduceEq, Int.reduceLT, Int.reduceLE, Int.natCast_zero, LV.cells, allocL, List.getElem?_cons_zero, List.getElem?_cons_succ, storeL, spliceL, List.take_zero, List.take_succ_cons, List.drop_zero, List.drop_succ_cons, List.drop_nil, List.take_nil, Nat.le_refl, Nat.reduceMul, List.set_cons_zero, List.set_cons_succ, LV.scalar, List.all_cons, List.all_nil, Nat.lt_add_one, Nat.zero_lt_one, Nat.reduceLT, Nat.lt_irrefl, fillL, List.length_append, foldIntL, kind_beq, pures_int, solids_int, plains_int, unders_int, scalars_int, hcl, show ¬ ((k : Int) < (q.length : Int)) by omega, List.drop_eq_nil_of_le (show q.length ≤ k by omega)]
    rfl
  | succ n ih =>
    intro k a hk ha
    have h2 : k < q.length := by omega
    have h3 := hq _ (List.getElem_mem h2)
    have hx := hr _ (List.getElem_mem h3)
    have e : p[q[k]] = ((prC p q[k] : Nat) : Int) := by
      rw [prC, show p.getD q[k] 0 = p[q[k]] by simp [List.getD_eq_getElem?_getD, h3]]; omega
    rw [e] at hx
    have ih := ih (k + 1) (a + prC p q[k]) (by omega) (by omega)
    have hw : IntKind.i64.wrap ((a : Int) + (prC p q[k] : Nat)) = ((a + prC p q[k] : Nat) : Int) := by rw [wrap_in (by omega)]; omega
    rw [ref12_cost.L0_eq, List.drop_eq_getElem_cons h2, cost_cons, ← Nat.add_assoc]
    simp only [IL, hcl, hcm] at ih ⊢
    simp only [ref12_cost.B0, beqT, beqF, exF_seq, exF_region, exF_block, exF_cond, exF_ret, exF_exit, exF_skip, runL, wantL, stepL, evL, LEnv.at, putL, loadFine, loadL, cellsAt, Trk.putNew, Trk.up, Trk.touch, Trk.gives, Trk.calm, Trk.hit, opdsOf, Trk.fresh, LEnv.keep, LEnv.ofFrom, List.map_cons, List.map_nil, nbeq, nble, nblt, ofAV, ofAVs, lenL, bin_add, bin_sub, bin_mul, bin_eql, bin_neq, bin_lss, bin_leq, bin_gtr, bin_geq, natL_nat, natL_zero, natL_one, natL_two, Nat.zero_mul, List.any_cons, List.any_nil, Bool.or_false, Bool.false_or, Bool.true_or, Bool.or_true, Bool.and_true, Bool.true_and, Bool.and_false, Bool.false_and, Bool.not_true, Bool.not_false, Nat.reduceBEq, Nat.reduceEqDiff, decide_true, decide_false, cond_true, cond_false, List.filter_nil, List.filter_cons, Nat.reduceAdd, Nat.reduceLeDiff, reduceCtorEq, List.length_nil, List.length_cons, Nat.mul_one, if_true, if_false, Bool.false_eq_true, eq_self, and_true, true_and, retL, resultsL, resAllL, resOfL, List.append_nil, List.nil_append, List.cons_append, true_or, or_true, false_or, or_false, false_and, and_false, not_true_eq_false, not_false_eq_true, ne_eq, unL, trim_nil, views_pures, LV.pures, LV.pure, freeze, Nat.reduceDiv, Int.reduceEq, Int.reduceLT, Int.reduceLE, Int.natCast_zero, LV.cells, allocL, List.getElem?_cons_zero, List.getElem?_cons_succ, storeL, spliceL, List.take_zero, List.take_succ_cons, List.drop_zero, List.drop_succ_cons, List.drop_nil, List.take_nil, Nat.le_refl, Nat.reduceMul, List.set_cons_zero, List.set_cons_succ, LV.scalar, List.all_cons, List.all_nil, Nat.lt_add_one, Nat.zero_lt_one, Nat.reduceLT, Nat.lt_irrefl, fillL, List.length_append, foldIntL, kind_beq, pures_int, solids_int, plains_int, unders_int, scalars_int, show ((k : Int) < (q.length : Int)) by omega, h2, nat_at _ _ _ h2, h3, int_at _ _ _ h3, e, hw, wrap_succ (show k + 1 < 9223372036854775808 by omega), ih]
theorem rcost_c (nl ex nl' ex' : Bool) (sz sz' : Nat) (p : List Int) (hr : ∀ x ∈ p, 1 ≤ x ∧ x ≤ 20) (q : List Nat) (hq : ∀ x ∈ q, x < p.length) (hl : q.length ≤ 1000) (m : LMem) :
    clF LP n_ref12_cost [IL nl ex sz p, IL nl' ex' sz' (ci q)] m = some (.P, .int .i64 (cost (prC p) q : Int), m) := by
  refine call_P lp_ref12_cost rfl (by simp [LV.pures, LV.pure]) (m1 := []) ?_ rfl m
  have h := rcost_loop nl ex nl' ex' sz sz' p hr q hq hl q.length 0 0 (by omega) (by omega)
  simp only [Int.natCast_zero, List.drop_zero, Nat.zero_add] at h
  simp only [ref12_cost, ref12_cost.B, beqT, beqF, exF_seq, exF_region, exF_block, exF_cond, exF_ret, exF_exit, exF_skip, runL, wantL, stepL, evL, LEnv.at, putL, loadFine, loadL, cellsAt, Trk.putNew, Trk.up, Trk.touch, Trk.gives, Trk.calm, Trk.hit, opdsOf, Trk.fresh, LEnv.keep, LEnv.ofFrom, List.map_cons, List.map_nil, nbeq, nble, nblt, ofAV, ofAVs, lenL, bin_add, bin_sub, bin_mul, bin_eql, bin_neq, bin_lss, bin_leq, bin_gtr, bin_geq, natL_nat, natL_zero, natL_one, natL_two, Nat.zero_mul, List.any_cons, List.any_nil, Bool.or_false, Bool.false_or, Bool.true_or, Bool.or_true, Bool.and_true, Bool.true_and, Bool.and_false, Bool.false_and, Bool.not_true, Bool.not_false, Nat.reduceBEq, Nat.reduceEqDiff, decide_true, decide_false, cond_true, cond_false, List.filter_nil, List.filter_cons, Nat.reduceAdd, Nat.reduceLeDiff, reduceCtorEq, List.length_nil, List.length_cons, Nat.mul_one, if_true, if_false, Bool.false_eq_true, eq_self, and_true, true_and, retL, resultsL, resAllL, resOfL, List.append_nil, List.nil_append, List.cons_append, true_or, or_true, false_or, or_false, false_and, and_false, not_true_eq_false, not_false_eq_true, ne_eq, unL, trim_nil, views_pures, LV.pures, LV.pure, freeze, Nat.reduceDiv, Int.reduceEq, Int.reduceLT, Int.reduceLE, Int.natCast_zero, LV.cells, allocL, List.getElem?_cons_zero, List.getElem?_cons_succ, storeL, spliceL, List.take_zero, List.take_succ_cons, List.drop_zero, List.drop_succ_cons, List.drop_nil, List.take_nil, Nat.le_refl, Nat.reduceMul, List.set_cons_zero, List.set_cons_succ, LV.scalar, List.all_cons, List.all_nil, Nat.lt_add_one, Nat.zero_lt_one, Nat.reduceLT, Nat.lt_irrefl, fillL, List.length_append, foldIntL, kind_beq, pures_int, solids_int, plains_int, unders_int, scalars_int, h]
def chF (price : Nat → Nat) : List Nat → List (List Nat) → List Nat
  | out, [] => out
  | out, l :: r => if cost price l < cost price out then chF price l r else chF price out r
theorem chF_find (price : Nat → Nat) (b : Nat) : ∀ (L : List (List Nat)) (out : List Nat), b ≤ cost price out → (∀ l ∈ L, b ≤ cost price l) → (cost price out = b ∨ ∃ l ∈ L, cost price l = b) → (out :: L).find? (fun l => decide (cost price l = b)) = some (chF price out L)
  | [], out, h1, h2, h3 => by
    rcases h3 with h | ⟨l, hl, _⟩
    · simp [chF, h]
    · cases hl
  | l :: r, out, h1, h2, h3 => by
    have hl := h2 l (by simp)
    have hr : ∀ x ∈ r, b ≤ cost price x := fun x hx => h2 x (by simp [hx])
    rw [chF]
    by_cases c : cost price l < cost price out
    · rw [if_pos c, ← chF_find price b r l hl hr (by
        rcases h3 with h | ⟨x, hx, e⟩
        · omega
        · rcases List.mem_cons.1 hx with rfl | hx
          · exact .inl e
          · exact .inr ⟨x, hx, e⟩), List.find?_cons]
      have : decide (cost price out = b) = false := by simp; omega
      rw [this]
    · rw [if_neg c, ← chF_find price b r out h1 hr (by
        rcases h3 with h | ⟨x, hx, e⟩
        · exact .inl h
        · rcases List.mem_cons.1 hx with rfl | hx
          · left; omega
          · exact .inr ⟨x, hx, e⟩)]
      simp only [List.find?_cons]
      by_cases d : cost price out = b
      · simp [d]
      · have e1 : decide (cost price out = b) = false := by simpa using d
        have e2 : decide (cost price l = b) = false := by simp; omega
        rw [e1, e2]
theorem cheapR_stop (nl ex nl' ex' : Bool) (sz sz' : Nat) (s p : List Int) (e : Int) (he : e ≠ 0) (k : Nat) : exF LP ref12_Cheapest.L0 [(0, IL nl ex sz s), (1, IL nl' ex' sz' p), (6, .int .i64 e), (7, .int .i64 (k : Int))] [] = some (.exit 0, [(0, IL nl ex sz s), (1, IL nl' ex' sz' p), (6, .int .i64 e)], []) := by
  rw [ref12_Cheapest.L0_eq]
  by_cases h : (k : Int) < (p.length : Int)
  · simp only [ref12_Cheapest.B0, beqT, beqF, exF_seq, exF_region, exF_block, exF_cond, exF_ret, exF_exit, exF_skip, runL, wantL, stepL, evL, LEnv.at, putL, loadFine, loadL, cellsAt, Trk.putNew, Trk.up, Trk.touch, Trk.gives, Trk.calm, Trk.hit, opdsOf, Trk.fresh, LEnv.keep, LEnv.ofFrom, List.map_cons, List.map_nil, nbeq, nble, nblt, ofAV, ofAVs, lenL, bin_add, bin_sub, bin_mul, bin_eql, bin_neq, bin_lss, bin_leq, bin_gtr, bin_geq, natL_nat, natL_zero, natL_one, natL_two, Nat.zero_mul, List.any_cons, List.any_nil, Bool.or_false, Bool.false_or, Bool.true_or, Bool.or_true, Bool.and_true, Bool.true_and, Bool.and_false, Bool.false_and, Bool.not_true, Bool.not_false, Nat.reduceBEq, Nat.reduceEqDiff, decide_true, decide_false, cond_true, cond_false, List.filter_nil, List.filter_cons, Nat.reduceAdd, Nat.reduceLeDiff, reduceCtorEq, List.length_nil, List.length_cons, Nat.mul_one, if_true, if_false, Bool.false_eq_true, eq_self, and_true, true_and, retL, resultsL, resAllL, resOfL, List.append_nil, List.nil_append, List.cons_append, true_or, or_true, false_or, or_false, false_and, and_false, not_true_eq_false, not_false_eq_true, ne_eq, unL, trim_nil, views_pures, LV.pures, LV.pure, freeze, Nat.reduceDiv, Int.reduceEq, Int.reduceLT, Int.reduceLE, Int.natCast_zero, LV.cells, allocL, List.getElem?_cons_zero, List.getElem?_cons_succ, storeL, spliceL, List.take_zero, List.take_succ_cons, List.drop_zero, List.drop_succ_cons, List.drop_nil, List.take_nil, Nat.le_refl, Nat.reduceMul, List.set_cons_zero, List.set_cons_succ, LV.scalar, List.all_cons, List.all_nil, Nat.lt_add_one, Nat.zero_lt_one, Nat.reduceLT, Nat.lt_irrefl, fillL, List.length_append, foldIntL, kind_beq, pures_int, solids_int, plains_int, unders_int, scalars_int, h, he]
  · simp only [ref12_Cheapest.B0, beqT, beqF, exF_seq, exF_region, exF_block, exF_cond, exF_ret, exF_exit, exF_skip, runL, wantL, stepL, evL, LEnv.at, putL, loadFine, loadL, cellsAt, Trk.putNew, Trk.up, Trk.touch, Trk.gives, Trk.calm, Trk.hit, opdsOf, Trk.fresh, LEnv.keep, LEnv.ofFrom, List.map_cons, List.map_nil, nbeq, nble, nblt, ofAV, ofAVs, lenL, bin_add, bin_sub, bin_mul, bin_eql, bin_neq, bin_lss, bin_leq, bin_gtr, bin_geq, natL_nat, natL_zero, natL_one, natL_two, Nat.zero_mul, List.any_cons, List.any_nil, Bool.or_false, Bool.false_or, Bool.true_or, Bool.or_true, Bool.and_true, Bool.true_and, Bool.and_false, Bool.false_and, Bool.not_true, Bool.not_false, Nat.reduceBEq, Nat.reduceEqDiff, decide_true, decide_false, cond_true, cond_false, List.filter_nil, List.filter_cons, Nat.reduceAdd, Nat.reduceLeDiff, reduceCtorEq, List.length_nil, List.length_cons, Nat.mul_one, if_true, if_false, Bool.false_eq_true, eq_self, and_true, true_and, retL, resultsL, resAllL, resOfL, List.append_nil, List.nil_append, List.cons_append, true_or, or_true, false_or, or_false, false_and, and_false, not_true_eq_false, not_false_eq_true, ne_eq, unL, trim_nil, views_pures, LV.pures, LV.pure, freeze, Nat.reduceDiv, Int.reduceEq, Int.reduceLT, Int.reduceLE, Int.natCast_zero, LV.cells, allocL, List.getElem?_cons_zero, List.getElem?_cons_succ, storeL, spliceL, List.take_zero, List.take_succ_cons, List.drop_zero, List.drop_succ_cons, List.drop_nil, List.take_nil, Nat.le_refl, Nat.reduceMul, List.set_cons_zero, List.set_cons_succ, LV.scalar, List.all_cons, List.all_nil, Nat.lt_add_one, Nat.zero_lt_one, Nat.reduceLT, Nat.lt_irrefl, fillL, List.length_append, foldIntL, kind_beq, pures_int, solids_int, plains_int, unders_int, scalars_int, h]
theorem cheapR_range (nl ex nl' ex' : Bool) (sz sz' : Nat) (s p : List Int) (hp : p.length < 1000000) (n : Nat) : ∀ k, k + n = p.length → exF LP ref12_Cheapest.L0 [(0, IL nl ex sz s), (1, IL nl' ex' sz' p), (6, .int .i64 0), (7, .int .i64 (k : Int))] [] = some (.exit 0, [(0, IL nl ex sz s), (1, IL nl' ex' sz' p), (6, .int .i64 (if (p.drop k).any (fun x => !inB 1 20 x) then 1 else 0))], []) := by
  induction n with
  | zero =>
    intro k hk
    rw [ref12_Cheapest.L0_eq]
    simp only [ref12_Cheapest.B0, beqT, beqF, exF_seq, exF_region, exF_block, exF_cond, exF_ret, exF_exit, exF_skip, runL, wantL, stepL, evL, LEnv.at, putL, loadFine, loadL, cellsAt, Trk.putNew, Trk.up, Trk.touch, Trk.gives, Trk.calm, Trk.hit, opdsOf, Trk.fresh, LEnv.keep, LEnv.ofFrom, List.map_cons, List.map_nil, nbeq, nble, nblt, ofAV, ofAVs, lenL, bin_add, bin_sub, bin_mul, bin_eql, bin_neq, bin_lss, bin_leq, bin_gtr, bin_geq, natL_nat, natL_zero, natL_one, natL_two, Nat.zero_mul, List.any_cons, List.any_nil, Bool.or_false, Bool.false_or, Bool.true_or, Bool.or_true, Bool.and_true, Bool.true_and, Bool.and_false, Bool.false_and, Bool.not_true, Bool.not_false, Nat.reduceBEq, Nat.reduceEqDiff, decide_true, decide_false, cond_true, cond_false, List.filter_nil, List.filter_cons, Nat.reduceAdd, Nat.reduceLeDiff, reduceCtorEq, List.length_nil, List.length_cons, Nat.mul_one, if_true, if_false, Bool.false_eq_true, eq_self, and_true, true_and, retL, resultsL, resAllL, resOfL, List.append_nil, List.nil_append, List.cons_append, true_or, or_true, false_or, or_false, false_and, and_false, not_true_eq_false, not_false_eq_true, ne_eq, unL, trim_nil, views_pures, LV.pures, LV.pure, freeze, Nat.reduceDiv, Int.reduceEq, Int.reduceLT, Int.reduceLE, Int.natCast_zero, LV.cells, allocL, List.getElem?_cons_zero, List.getElem?_cons_succ, storeL, spliceL, List.take_zero, List.take_succ_cons, List.drop_zero, List.drop_succ_cons, List.drop_nil, List.take_nil, Nat.le_refl, Nat.reduceMul, List.set_cons_zero, List.set_cons_succ, LV.scalar, List.all_cons, List.all_nil, Nat.lt_add_one, Nat.zero_lt_one, Nat.reduceLT, Nat.lt_irrefl, fillL, List.length_append, foldIntL, kind_beq, pures_int, solids_int, plains_int, unders_int, scalars_int, show ¬ ((k : Int) < (p.length : Int)) by omega, List.drop_eq_nil_of_le (show p.length ≤ k by omega)]
  | succ n ih =>
    intro k hk
    have h2 : k < p.length := by omega
    have ih := ih (k + 1) (by omega)
    have hst := cheapR_stop nl ex nl' ex' sz sz' s p 1 (by omega) (k + 1)
    rw [ref12_Cheapest.L0_eq, List.drop_eq_getElem_cons h2, List.any_cons]
    cases h : inB 1 20 p[k]
    · simp only [ref12_Cheapest.B0, beqT, beqF, exF_seq, exF_region, exF_block, exF_cond, exF_ret, exF_exit, exF_skip, runL, wantL, stepL, evL, LEnv.at, putL, loadFine, loadL, cellsAt, Trk.putNew, Trk.up, Trk.touch, Trk.gives, Trk.calm, Trk.hit, opdsOf, Trk.fresh, LEnv.keep, LEnv.ofFrom, List.map_cons, List.map_nil, nbeq, nble, nblt, ofAV, ofAVs, lenL, bin_add, bin_sub, bin_mul, bin_eql, bin_neq, bin_lss, bin_leq, bin_gtr, bin_geq, natL_nat, natL_zero, natL_one, natL_two, Nat.zero_mul, List.any_cons, List.any_nil, Bool.or_false, Bool.false_or, Bool.true_or, Bool.or_true, Bool.and_true, Bool.true_and, Bool.and_false, Bool.false_and, Bool.not_true, Bool.not_false, Nat.reduceBEq, Nat.reduceEqDiff, decide_true, decide_false, cond_true, cond_false, List.filter_nil, List.filter_cons, Nat.reduceAdd, Nat.reduceLeDiff, reduceCtorEq, List.length_nil, List.length_cons, Nat.mul_one, if_true, if_false, Bool.false_eq_true, eq_self, and_true, true_and, retL, resultsL, resAllL, resOfL, List.append_nil, List.nil_append, List.cons_append, true_or, or_true, false_or, or_false, false_and, and_false, not_true_eq_false, not_false_eq_true, ne_eq, unL, trim_nil, views_pures, LV.pures, LV.pure, freeze, Nat.reduceDiv, Int.reduceEq, Int.reduceLT, Int.reduceLE, Int.natCast_zero, LV.cells, allocL, List.getElem?_cons_zero, List.getElem?_cons_succ, storeL, spliceL, List.take_zero, List.take_succ_cons, List.drop_zero, List.drop_succ_cons, List.drop_nil, List.take_nil, Nat.le_refl, Nat.reduceMul, List.set_cons_zero, List.set_cons_succ, LV.scalar, List.all_cons, List.all_nil, Nat.lt_add_one, Nat.zero_lt_one, Nat.reduceLT, Nat.lt_irrefl, fillL, List.length_append, foldIntL, kind_beq, pures_int, solids_int, plains_int, unders_int, scalars_int, show ((k : Int) < (p.length : Int)) by omega, h2, int_at _ _ _ h2, in_c, h, wrap_succ (show k + 1 < 9223372036854775808 by omega), hst]
    · simp only [ref12_Cheapest.B0, beqT, beqF, exF_seq, exF_region, exF_block, exF_cond, exF_ret, exF_exit, exF_skip, runL, wantL, stepL, evL, LEnv.at, putL, loadFine, loadL, cellsAt, Trk.putNew, Trk.up, Trk.touch, Trk.gives, Trk.calm, Trk.hit, opdsOf, Trk.fresh, LEnv.keep, LEnv.ofFrom, List.map_cons, List.map_nil, nbeq, nble, nblt, ofAV, ofAVs, lenL, bin_add, bin_sub, bin_mul, bin_eql, bin_neq, bin_lss, bin_leq, bin_gtr, bin_geq, natL_nat, natL_zero, natL_one, natL_two, Nat.zero_mul, List.any_cons, List.any_nil, Bool.or_false, Bool.false_or, Bool.true_or, Bool.or_true, Bool.and_true, Bool.true_and, Bool.and_false, Bool.false_and, Bool.not_true, Bool.not_false, Nat.reduceBEq, Nat.reduceEqDiff, decide_true, decide_false, cond_true, cond_false, List.filter_nil, List.filter_cons, Nat.reduceAdd, Nat.reduceLeDiff, reduceCtorEq, List.length_nil, List.length_cons, Nat.mul_one, if_true, if_false, Bool.false_eq_true, eq_self, and_true, true_and, retL, resultsL, resAllL, resOfL, List.append_nil, List.nil_append, List.cons_append, true_or, or_true, false_or, or_false, false_and, and_false, not_true_eq_false, not_false_eq_true, ne_eq, unL, trim_nil, views_pures, LV.pures, LV.pure, freeze, Nat.reduceDiv, Int.reduceEq, Int.reduceLT, Int.reduceLE, Int.natCast_zero, LV.cells, allocL, List.getElem?_cons_zero, List.getElem?_cons_succ, storeL, spliceL, List.take_zero, List.take_succ_cons, List.drop_zero, List.drop_succ_cons, List.drop_nil, List.take_nil, Nat.le_refl, Nat.reduceMul, List.set_cons_zero, List.set_cons_succ, LV.scalar, List.all_cons, List.all_nil, Nat.lt_add_one, Nat.zero_lt_one, Nat.reduceLT, Nat.lt_irrefl, fillL, List.length_append, foldIntL, kind_beq, pures_int, solids_int, plains_int, unders_int, scalars_int, show ((k : Int) < (p.length : Int)) by omega, h2, int_at _ _ _ h2, in_c, h, wrap_succ (show k + 1 < 9223372036854775808 by omega), ih]
theorem cheapR_best (nl' ex' : Bool) (sz' : Nat) (p : List Int) (hr : ∀ x ∈ p, 1 ≤ x ∧ x ≤ 20) (h10 : p.length ≤ 10) (a b : Bool) (L : List (List Nat)) (hL : ∀ l ∈ L, l ∈ asc 0 p.length) (hlen : L.length ≤ 2000) (n : Nat) : ∀ (k : Nat) (out : List Nat), k + n = L.length → out ∈ asc 0 p.length →
    exF LP ref12_Cheapest.L1 [(1, IL nl' ex' sz' p), (8, .lst a b 1 L.length (rowsL L)), (9, RLn out), (10, .int .i64 (k : Int))] [] = some (.exit 2, [(9, RLn (chF (prC p) out (L.drop k)))], []) := by
  induction n with
  | zero =>
    intro k out hk ho
    rw [ref12_Cheapest.L1_eq]
    simp only [ref12_Cheapest.B1, beqT, beqF, exF_seq, exF_region, exF_block, exF_cond, exF_ret, exF_exit, exF_skip, runL, wantL, stepL, evL, LEnv.at, putL, loadFine, loadL, cellsAt, Trk.putNew, Trk.up, Trk.touch, Trk.gives, Trk.calm, Trk.hit, opdsOf, Trk.fresh, LEnv.keep, LEnv.ofFrom, List.map_cons, List.map_nil, nbeq, nble, nblt, ofAV, ofAVs, lenL, bin_add, bin_sub, bin_mul, bin_eql, bin_neq, bin_lss, bin_leq, bin_gtr, bin_geq, natL_nat, natL_zero, natL_one, natL_two, Nat.zero_mul, List.any_cons, List.any_nil, Bool.or_false, Bool.false_or, Bool.true_or, Bool.or_true, Bool.and_true, Bool.true_and, Bool.and_false, Bool.false_and, Bool.not_true, Bool.not_false, Nat.reduceBEq, Nat.reduceEqDiff, decide_true, decide_false, cond_true, cond_false, List.filter_nil, List.filter_cons, Nat.reduceAdd, Nat.reduceLeDiff, reduceCtorEq, List.length_nil, List.length_cons, Nat.mul_one, if_true, if_false, Bool.false_eq_true, eq_self, and_true, true_and, retL, resultsL, resAllL, resOfL, List.append_nil, List.nil_append, List.cons_append, true_or, or_true, false_or, or_false, false_and, and_false, not_true_eq_false, not_false_eq_true, ne_eq, unL, trim_nil, views_pures, LV.pures, LV.pure, freeze, Nat.reduceDiv, Int.reduceEq, Int.reduceLT, Int.reduceLE, Int.natCast_zero, LV.cells, allocL, List.getElem?_cons_zero, List.getElem?_cons_succ, storeL, spliceL, List.take_zero, List.take_succ_cons, List.drop_zero, List.drop_succ_cons, List.drop_nil, List.take_nil, Nat.le_refl, Nat.reduceMul, List.set_cons_zero, List.set_cons_succ, LV.scalar, List.all_cons, List.all_nil, Nat.lt_add_one, Nat.zero_lt_one, Nat.reduceLT, Nat.lt_irrefl, fillL, List.length_append, foldIntL, kind_beq, pures_int, solids_int, plains_int, unders_int, scalars_int, show ¬ ((k : Int) < (L.length : Int)) by omega, List.drop_eq_nil_of_le (show L.length ≤ k by omega), chF]
  | succ n ih =>
    intro k out hk ho
    have h2 : k < L.length := by omega
    have hm := hL _ (List.getElem_mem h2)
    have c1 := rcost_c nl' ex' (decide (ci L[k] = [])) (decide (ci L[k] = [])) sz' (cond (decide (ci L[k] = [])) 0 1) p hr L[k] (asc_lt hm) (by have := asc_len hm; omega)
    have c2 := rcost_c nl' ex' (decide (ci out = [])) (decide (ci out = [])) sz' (cond (decide (ci out = [])) 0 1) p hr out (asc_lt ho) (by have := asc_len ho; omega)
    rw [ref12_Cheapest.L1_eq, List.drop_eq_getElem_cons h2, chF]
    by_cases c : cost (prC p) L[k] < cost (prC p) out
    · have c' : (cost (prC p) L[k] : Int) < (cost (prC p) out : Int) := by omega
      simp only [if_pos c]
      have ih := ih (k + 1) L[k] (by omega) hm
      simp only [ref12_Cheapest.B1, beqT, beqF, exF_seq, exF_region, exF_block, exF_cond, exF_ret, exF_exit, exF_skip, runL, wantL, stepL, evL, LEnv.at, putL, loadFine, loadL, cellsAt, Trk.putNew, Trk.up, Trk.touch, Trk.gives, Trk.calm, Trk.hit, opdsOf, Trk.fresh, LEnv.keep, LEnv.ofFrom, List.map_cons, List.map_nil, nbeq, nble, nblt, ofAV, ofAVs, lenL, bin_add, bin_sub, bin_mul, bin_eql, bin_neq, bin_lss, bin_leq, bin_gtr, bin_geq, natL_nat, natL_zero, natL_one, natL_two, Nat.zero_mul, List.any_cons, List.any_nil, Bool.or_false, Bool.false_or, Bool.true_or, Bool.or_true, Bool.and_true, Bool.true_and, Bool.and_false, Bool.false_and, Bool.not_true, Bool.not_false, Nat.reduceBEq, Nat.reduceEqDiff, decide_true, decide_false, cond_true, cond_false, List.filter_nil, List.filter_cons, Nat.reduceAdd, Nat.reduceLeDiff, reduceCtorEq, List.length_nil, List.length_cons, Nat.mul_one, if_true, if_false, Bool.false_eq_true, eq_self, and_true, true_and, retL, resultsL, resAllL, resOfL, List.append_nil, List.nil_append, List.cons_append, true_or, or_true, false_or, or_false, false_and, and_false, not_true_eq_false, not_false_eq_true, ne_eq, unL, trim_nil, views_pures, LV.pures, LV.pure, freeze, Nat.reduceDiv, Int.reduceEq, Int.reduceLT, Int.reduceLE, Int.natCast_zero, LV.cells, allocL, List.getElem?_cons_zero, List.getElem?_cons_succ, storeL, spliceL, List.take_zero, List.take_succ_cons, List.drop_zero, List.drop_succ_cons, List.drop_nil, List.take_nil, Nat.le_refl, Nat.reduceMul, List.set_cons_zero, List.set_cons_succ, LV.scalar, List.all_cons, List.all_nil, Nat.lt_add_one, Nat.zero_lt_one, Nat.reduceLT, Nat.lt_irrefl, fillL, List.length_append, foldIntL, kind_beq, pures_int, solids_int, plains_int, unders_int, scalars_int, show ((k : Int) < (L.length : Int)) by omega, h2, rowsL_at _ _ h2, c1, c2, c', wrap_succ (show k + 1 < 9223372036854775808 by omega), ih]
    · have c' : ¬ (cost (prC p) L[k] : Int) < (cost (prC p) out : Int) := by omega
      simp only [if_neg c]
      have ih := ih (k + 1) out (by omega) ho
      simp only [ref12_Cheapest.B1, beqT, beqF, exF_seq, exF_region, exF_block, exF_cond, exF_ret, exF_exit, exF_skip, runL, wantL, stepL, evL, LEnv.at, putL, loadFine, loadL, cellsAt, Trk.putNew, Trk.up, Trk.touch, Trk.gives, Trk.calm, Trk.hit, opdsOf, Trk.fresh, LEnv.keep, LEnv.ofFrom, List.map_cons, List.map_nil, nbeq, nble, nblt, ofAV, ofAVs, lenL, bin_add, bin_sub, bin_mul, bin_eql, bin_neq, bin_lss, bin_leq, bin_gtr, bin_geq, natL_nat, natL_zero, natL_one, natL_two, Nat.zero_mul, List.any_cons, List.any_nil, Bool.or_false, Bool.false_or, Bool.true_or, Bool.or_true, Bool.and_true, Bool.true_and, Bool.and_false, Bool.false_and, Bool.not_true, Bool.not_false, Nat.reduceBEq, Nat.reduceEqDiff, decide_true, decide_false, cond_true, cond_false, List.filter_nil, List.filter_cons, Nat.reduceAdd, Nat.reduceLeDiff, reduceCtorEq, List.length_nil, List.length_cons, Nat.mul_one, if_true, if_false, Bool.false_eq_true, eq_self, and_true, true_and, retL, resultsL, resAllL, resOfL, List.append_nil, List.nil_append, List.cons_append, true_or, or_true, false_or, or_false, false_and, and_false, not_true_eq_false, not_false_eq_true, ne_eq, unL, trim_nil, views_pures, LV.pures, LV.pure, freeze, Nat.reduceDiv, Int.reduceEq, Int.reduceLT, Int.reduceLE, Int.natCast_zero, LV.cells, allocL, List.getElem?_cons_zero, List.getElem?_cons_succ, storeL, spliceL, List.take_zero, List.take_succ_cons, List.drop_zero, List.drop_succ_cons, List.drop_nil, List.take_nil, Nat.le_refl, Nat.reduceMul, List.set_cons_zero, List.set_cons_succ, LV.scalar, List.all_cons, List.all_nil, Nat.lt_add_one, Nat.zero_lt_one, Nat.reduceLT, Nat.lt_irrefl, fillL, List.length_append, foldIntL, kind_beq, pures_int, solids_int, plains_int, unders_int, scalars_int, show ((k : Int) < (L.length : Int)) by omega, h2, rowsL_at _ _ h2, c1, c2, c', wrap_succ (show k + 1 < 9223372036854775808 by omega), ih]
/-- The first of the cheapest lists is what the loop finds. -/
theorem ch_first {s : List Int} (K : OkS s) (price : Nat → Nat) : ∃ l r, gs s = l :: r ∧ chF price l r = firstS s price := by
  cases hg : gs s with
  | nil => have := range_gs K; rw [hg] at this; cases this
  | cons l r =>
    refine ⟨l, r, rfl, ?_⟩
    have h := (wh_some _ _ _ _ _ _).1 (best_ok s price)
    have hmem : ∀ x, x ∈ l :: r ↔ x ∈ asc 0 s.length ∧ dom (par s) s.length x = true := fun x => by rw [← hg, gs_dom K, List.mem_filter]
    have hle : ∀ x ∈ l :: r, bestC s price ≤ cost price x := fun x hx => h.2 x ((hmem x).1 hx).1 ⟨((hmem x).1 hx).2, by simp, by simp⟩
    have hex : ∃ x ∈ l :: r, cost price x = bestC s price := by
      obtain ⟨⟨S, h1, ⟨h2, _⟩, h3⟩, _⟩ := h
      exact ⟨S, (hmem S).2 ⟨h1, h2⟩, h3⟩
    have hf := chF_find price (bestC s price) r l (hle l (by simp)) (fun x hx => hle x (by simp [hx])) (by
      obtain ⟨x, hx, e⟩ := hex
      rcases List.mem_cons.1 hx with rfl | hx
      · exact .inl e
      · exact .inr ⟨x, hx, e⟩)
    have h2 := firstS_find s price
    rw [← hg, gs_dom K, List.find?_filter] at hf
    have e : (fun a => decide (dom (par s) s.length a = true ∧ decide (cost price a = bestC s price) = true)) = goodC (par s) s.length price (bestC s price) := by
      funext a; simp [goodC]
    rw [e, h2] at hf
    exact (Option.some.inj hf).symm
theorem cheapR_c (nl ex nl' ex' : Bool) (sz : Nat) (s p : List Int) (hs : s.length < 1000000) (hp : p.length < 1000000) (m : LMem) : clF LP n_ref12_Cheapest [IL nl ex sz s, IL nl' ex' 1 p] m = some (.P, .tup [RLn (cheapV s p), .int .i64 (cheapE s p)], m) := by
  have hc := fun m => rcheck_c nl ex sz s hs m
  refine call_P lp_ref12_Cheapest rfl (by simp [LV.pures, LV.pure]) (m1 := []) ?_ (by simp [LV.pures, LV.pure]) m
  unfold cheapV
  by_cases h1 : chkS s = 0
  · have K := okS_of h1
    by_cases h2 : p.length = s.length
    · have h2' : (p.length : Int) = (s.length : Int) := by omega
      have hl := cheapR_range nl ex nl' ex' sz 1 s p hp p.length 0 (by omega)
      simp only [List.drop_zero, Int.natCast_zero] at hl
      have e0 : cheapE s p = if p.any (fun x => !inB 1 20 x) then 1 else 0 := by
        unfold cheapE; rw [if_neg (by simpa using h1), if_neg (by simpa using h2)]
      rw [e0]
      by_cases c : p.any (fun x => !inB 1 20 x) = true
      · simp only [c, if_true] at hl
        rw [if_pos c, if_neg (by omega)]
        simp only [ref12_Cheapest, ref12_Cheapest.B, beqT, beqF, exF_seq, exF_region, exF_block, exF_cond, exF_ret, exF_exit, exF_skip, runL, wantL, stepL, evL, LEnv.at, putL, loadFine, loadL, cellsAt, Trk.putNew, Trk.up, Trk.touch, Trk.gives, Trk.calm, Trk.hit, opdsOf, Trk.fresh, LEnv.keep, LEnv.ofFrom, List.map_cons, List.map_nil, nbeq, nble, nblt, ofAV, ofAVs, lenL, bin_add, bin_sub, bin_mul, bin_eql, bin_neq, bin_lss, bin_leq, bin_gtr, bin_geq, natL_nat, natL_zero, natL_one, natL_two, Nat.zero_mul, List.any_cons, List.any_nil, Bool.or_false, Bool.false_or, Bool.true_or, Bool.or_true, Bool.and_true, Bool.true_and, Bool.and_false, Bool.false_and, Bool.not_true, Bool.not_false, Nat.reduceBEq, Nat.reduceEqDiff, decide_true, decide_false, cond_true, cond_false, List.filter_nil, List.filter_cons, Nat.reduceAdd, Nat.reduceLeDiff, reduceCtorEq, List.length_nil, List.length_cons, Nat.mul_one, if_true, if_false, Bool.false_eq_true, eq_self, and_true, true_and, retL, resultsL, resAllL, resOfL, List.append_nil, List.nil_append, List.cons_append, true_or, or_true, false_or, or_false, false_and, and_false, not_true_eq_false, not_false_eq_true, ne_eq, unL, trim_nil, views_pures, LV.pures, LV.pure, freeze, Nat.reduceDiv, Int.reduceEq, Int.reduceLT, Int.reduceLE, Int.natCast_zero, LV.cells, allocL, List.getElem?_cons_zero, List.getElem?_cons_succ, storeL, spliceL, List.take_zero, List.take_succ_cons, List.drop_zero, List.drop_succ_cons, List.drop_nil, List.take_nil, Nat.le_refl, Nat.reduceMul, List.set_cons_zero, List.set_cons_succ, LV.scalar, List.all_cons, List.all_nil, Nat.lt_add_one, Nat.zero_lt_one, Nat.reduceLT, Nat.lt_irrefl, fillL, List.length_append, foldIntL, kind_beq, pures_int, solids_int, plains_int, unders_int, scalars_int, hc, h1, h2', hl]
        rfl
      · have hr := (range_any p).1 (by simpa using c)
        rw [if_neg c] at hl
        simp only [if_neg c, if_true]
        obtain ⟨a, b, hg⟩ := guarding_c nl ex sz K
        obtain ⟨l, r, hgs, hch⟩ := ch_first K (prC p)
        have hlen := gs_len s K.le
        have hl1 : l ∈ asc 0 p.length := by
          rw [h2]
          have : l ∈ gs s := by rw [hgs]; simp
          exact (List.mem_filter.1 this).1
        have hb := cheapR_best nl' ex' 1 p hr (by have := K.le; omega) a b (gs s) (fun x hx => by rw [h2]; exact (List.mem_filter.1 hx).1) (by omega) r.length 1 l (by rw [hgs]; simp; omega) hl1
        have hd : (gs s).drop 1 = r := by rw [hgs]; rfl
        rw [hd, hch] at hb
        have h0 : (rowsL (gs s))[0]? = some (RLn l) := by rw [hgs]; rfl
        have h00 : 0 < (gs s).length := by rw [hgs]; simp
        simp only [Int.natCast_one] at hb
        simp only [ref12_Cheapest, ref12_Cheapest.B, beqT, beqF, exF_seq, exF_region, exF_block, exF_cond, exF_ret, exF_exit, exF_skip, runL, wantL, stepL, evL, LEnv.at, putL, loadFine, loadL, cellsAt, Trk.putNew, Trk.up, Trk.touch, Trk.gives, Trk.calm, Trk.hit, opdsOf, Trk.fresh, LEnv.keep, LEnv.ofFrom, List.map_cons, List.map_nil, nbeq, nble, nblt, ofAV, ofAVs, lenL, bin_add, bin_sub, bin_mul, bin_eql, bin_neq, bin_lss, bin_leq, bin_gtr, bin_geq, natL_nat, natL_zero, natL_one, natL_two, Nat.zero_mul, List.any_cons, List.any_nil, Bool.or_false, Bool.false_or, Bool.true_or, Bool.or_true, Bool.and_true, Bool.true_and, Bool.and_false, Bool.false_and, Bool.not_true, Bool.not_false, Nat.reduceBEq, Nat.reduceEqDiff, decide_true, decide_false, cond_true, cond_false, List.filter_nil, List.filter_cons, Nat.reduceAdd, Nat.reduceLeDiff, reduceCtorEq, List.length_nil, List.length_cons, Nat.mul_one, if_true, if_false, Bool.false_eq_true, eq_self, and_true, true_and, retL, resultsL, resAllL, resOfL, List.append_nil, List.nil_append, List.cons_append, true_or, or_true, false_or, or_false, false_and, and_false, not_true_eq_false, not_false_eq_true, ne_eq, unL, trim_nil, views_pures, LV.pures, LV.pure, freeze, Nat.reduceDiv, Int.reduceEq, Int.reduceLT, Int.reduceLE, Int.natCast_zero, LV.cells, allocL, List.getElem?_cons_zero, List.getElem?_cons_succ, storeL, spliceL, List.take_zero, List.take_succ_cons, List.drop_zero, List.drop_succ_cons, List.drop_nil, List.take_nil, Nat.le_refl, Nat.reduceMul, List.set_cons_zero, List.set_cons_succ, LV.scalar, List.all_cons, List.all_nil, Nat.lt_add_one, Nat.zero_lt_one, Nat.reduceLT, Nat.lt_irrefl, fillL, List.length_append, foldIntL, kind_beq, pures_int, solids_int, plains_int, unders_int, scalars_int, hc, h1, h2', hl, hg, h00, h0, hb]
    · have h2' : ¬ (p.length : Int) = (s.length : Int) := by omega
      have e0 : cheapE s p = 5 := by unfold cheapE; rw [if_neg (by simpa using h1), if_pos (by simpa using h2)]
      have hst := cheapR_stop nl ex nl' ex' sz 1 s p 5 (by omega) 0
      simp only [Int.natCast_zero] at hst
      rw [e0, if_neg (by omega)]
      simp only [ref12_Cheapest, ref12_Cheapest.B, beqT, beqF, exF_seq, exF_region, exF_block, exF_cond, exF_ret, exF_exit, exF_skip, runL, wantL, stepL, evL, LEnv.at, putL, loadFine, loadL, cellsAt, Trk.putNew, Trk.up, Trk.touch, Trk.gives, Trk.calm, Trk.hit, opdsOf, Trk.fresh, LEnv.keep, LEnv.ofFrom, List.map_cons, List.map_nil, nbeq, nble, nblt, ofAV, ofAVs, lenL, bin_add, bin_sub, bin_mul, bin_eql, bin_neq, bin_lss, bin_leq, bin_gtr, bin_geq, natL_nat, natL_zero, natL_one, natL_two, Nat.zero_mul, List.any_cons, List.any_nil, Bool.or_false, Bool.false_or, Bool.true_or, Bool.or_true, Bool.and_true, Bool.true_and, Bool.and_false, Bool.false_and, Bool.not_true, Bool.not_false, Nat.reduceBEq, Nat.reduceEqDiff, decide_true, decide_false, cond_true, cond_false, List.filter_nil, List.filter_cons, Nat.reduceAdd, Nat.reduceLeDiff, reduceCtorEq, List.length_nil, List.length_cons, Nat.mul_one, if_true, if_false, Bool.false_eq_true, eq_self, and_true, true_and, retL, resultsL, resAllL, resOfL, List.append_nil, List.nil_append, List.cons_append, true_or, or_true, false_or, or_false, false_and, and_false, not_true_eq_false, not_false_eq_true, ne_eq, unL, trim_nil, views_pures, LV.pures, LV.pure, freeze, Nat.reduceDiv, Int.reduceEq, Int.reduceLT, Int.reduceLE, Int.natCast_zero, LV.cells, allocL, List.getElem?_cons_zero, List.getElem?_cons_succ, storeL, spliceL, List.take_zero, List.take_succ_cons, List.drop_zero, List.drop_succ_cons, List.drop_nil, List.take_nil, Nat.le_refl, Nat.reduceMul, List.set_cons_zero, List.set_cons_succ, LV.scalar, List.all_cons, List.all_nil, Nat.lt_add_one, Nat.zero_lt_one, Nat.reduceLT, Nat.lt_irrefl, fillL, List.length_append, foldIntL, kind_beq, pures_int, solids_int, plains_int, unders_int, scalars_int, hc, h1, h2', hst]
      rfl
  · have e0 : cheapE s p = chkS s := by unfold cheapE; rw [if_pos (by simpa using h1)]
    have hst := cheapR_stop nl ex nl' ex' sz 1 s p (chkS s) h1 0
    simp only [Int.natCast_zero] at hst
    rw [e0, if_neg h1]
    simp only [ref12_Cheapest, ref12_Cheapest.B, beqT, beqF, exF_seq, exF_region, exF_block, exF_cond, exF_ret, exF_exit, exF_skip, runL, wantL, stepL, evL, LEnv.at, putL, loadFine, loadL, cellsAt, Trk.putNew, Trk.up, Trk.touch, Trk.gives, Trk.calm, Trk.hit, opdsOf, Trk.fresh, LEnv.keep, LEnv.ofFrom, List.map_cons, List.map_nil, nbeq, nble, nblt, ofAV, ofAVs, lenL, bin_add, bin_sub, bin_mul, bin_eql, bin_neq, bin_lss, bin_leq, bin_gtr, bin_geq, natL_nat, natL_zero, natL_one, natL_two, Nat.zero_mul, List.any_cons, List.any_nil, Bool.or_false, Bool.false_or, Bool.true_or, Bool.or_true, Bool.and_true, Bool.true_and, Bool.and_false, Bool.false_and, Bool.not_true, Bool.not_false, Nat.reduceBEq, Nat.reduceEqDiff, decide_true, decide_false, cond_true, cond_false, List.filter_nil, List.filter_cons, Nat.reduceAdd, Nat.reduceLeDiff, reduceCtorEq, List.length_nil, List.length_cons, Nat.mul_one, if_true, if_false, Bool.false_eq_true, eq_self, and_true, true_and, retL, resultsL, resAllL, resOfL, List.append_nil, List.nil_append, List.cons_append, true_or, or_true, false_or, or_false, false_and, and_false, not_true_eq_false, not_false_eq_true, ne_eq, unL, trim_nil, views_pures, LV.pures, LV.pure, freeze, Nat.reduceDiv, Int.reduceEq, Int.reduceLT, Int.reduceLE, Int.natCast_zero, LV.cells, allocL, List.getElem?_cons_zero, List.getElem?_cons_succ, storeL, spliceL, List.take_zero, List.take_succ_cons, List.drop_zero, List.drop_succ_cons, List.drop_nil, List.take_nil, Nat.le_refl, Nat.reduceMul, List.set_cons_zero, List.set_cons_succ, LV.scalar, List.all_cons, List.all_nil, Nat.lt_add_one, Nat.zero_lt_one, Nat.reduceLT, Nat.lt_irrefl, fillL, List.length_append, foldIntL, kind_beq, pures_int, solids_int, plains_int, unders_int, scalars_int, hc, h1, hst]
    rfl
end Go.Am.Post

