/-
  What functions of chapter 12 compute, 6: posts that guard and places that are apart, the program's and the reference's; the law of hands.
-/
import Derived.Test.YthnaeifkngeenaaPostC5
set_option linter.unusedVariables false
set_option linter.unusedSimpArgs false
set_option maxRecDepth 10000
namespace Go.Am.Post
open Go.Am.G

theorem asc_lt {n : Nat} {q : List Nat} (h : q ∈ asc 0 n) : ∀ x ∈ q, x < n := fun x hx => by have := ((mem_asc _ _ _).1 h).2 x hx; omega
theorem up_len : ∀ (q : List Nat) (i n : Nat), up i q → (∀ x ∈ q, x < n) → q.length ≤ n - i
  | [], _, _, _, _ => by simp
  | x :: r, i, n, ⟨a, b⟩, h => by
    have := up_len r (x + 1) n b fun y hy => h y (by simp [hy])
    have := h x (by simp)
    simp only [List.length_cons]; omega
theorem asc_len {n : Nat} {q : List Nat} (h : q ∈ asc 0 n) : q.length ≤ n := by
  have := up_len q 0 n ((mem_asc _ _ _).1 h).1 (asc_lt h); omega
theorem handL_len (s : List Int) (p : Nat) : (handL s p).length ≤ s.length := by
  unfold handL handR
  exact Nat.le_trans (List.length_filter_le _ _) (by simp)
theorem ci_mem (l : List Nat) (x : Nat) : (x : Int) ∈ ci l ↔ x ∈ l := by
  simp only [List.mem_map]
  constructor
  · rintro ⟨y, hy, e⟩
    have : y = x := by omega
    exact this ▸ hy
  · intro h; exact ⟨x, h, rfl⟩
theorem handL_mem {s : List Int} {p u : Nat} : u ∈ handL s p ↔ u < s.length ∧ nb s p u = true := by
  unfold handL handR
  rw [List.mem_filter, List.mem_range']
  constructor
  · rintro ⟨⟨i, hi, rfl⟩, h⟩; exact ⟨by omega, h⟩
  · rintro ⟨h1, h2⟩; exact ⟨⟨u, h1, by omega⟩, h2⟩
theorem com_hand (s : List Int) (p : Nat) (q : List Nat) (hq : ∀ x ∈ q, x < s.length) : comI (ci (handL s p)) (ci q) = q.any fun u => nb s p u := by
  unfold comI
  rw [Bool.eq_iff_iff, List.any_map, List.any_eq_true, List.any_eq_true]
  constructor
  · rintro ⟨u, h1, h2⟩
    simp only [Function.comp, decide_eq_true_eq, ci_mem] at h2
    exact ⟨u, h2, (handL_mem.1 h1).2⟩
  · rintro ⟨u, h1, h2⟩
    refine ⟨u, handL_mem.2 ⟨hq u h1, h2⟩, ?_⟩
    simp only [Function.comp, decide_eq_true_eq, ci_mem]; exact h1

theorem rguards_loop (nl ex nl' ex' : Bool) (sz sz' : Nat) (s : List Int) (h10 : s.length ≤ 10) (q : List Nat) (hq : ∀ x ∈ q, x < s.length) (hl : q.length < 1000000) (n : Nat) : ∀ k, k + n = s.length →
    exF LP ref12_guards.L0 [(0, IL nl ex sz s), (1, IL nl' ex' sz' (ci q)), (5, .int .i64 (k : Int))] [] = if (List.range' k n).all fun v => q.any fun u => nb s v u then some (.exit 0, [], []) else some (.ret, [(4, .bool false)], []) := by
  induction n with
  | zero =>
    intro k hk
    rw [ref12_guards.L0_eq]
    simp only [ref12_guards.B0, beqT, beqF, exF_seq, exF_region, exF_block, exF_cond, exF_ret, exF_exit, exF_skip, runL, wantL, stepL, evL, LEnv.at, putL, loadFine, loadL, cellsAt, Trk.putNew, Trk.up, Trk.touch, Trk.gives, Trk.calm, Trk.hit, opdsOf, Trk.fresh, LEnv.keep, LEnv.ofFrom, List.map_cons, List.map_nil, nbeq, nble, nblt, ofAV, ofAVs, lenL, bin_add, bin_sub, bin_mul, bin_eql, bin_neq, bin_lss, bin_leq, bin_gtr, bin_geq, natL_nat, natL_zero, natL_one, natL_two, Nat.zero_mul, List.any_cons, List.any_nil, Bool.or_false, Bool.false_or, Bool.true_or, Bool.or_true, Bool.and_true, Bool.true_and, Bool.and_false, Bool.false_and, Bool.not_true, Bool.not_false, Nat.reduceBEq, Nat.reduceEqDiff, decide_true, decide_false, cond_true, cond_false, List.filter_nil, List.filter_cons, Nat.reduceAdd, Nat.reduceLeDiff, reduceCtorEq, List.length_nil, List.length_cons, Nat.mul_one, if_true, if_false, Bool.false_eq_true, eq_self, and_true, true_and, retL, resultsL, resAllL, resOfL, List.append_nil, List.nil_append, List.cons_append, true_or, or_true, false_or, or_false, false_and, and_false, not_true_eq_false, not_false_eq_true, ne_eq, unL, trim_nil, views_pures, LV.pures, LV.pure, freeze, Nat.reduceDiv, Int.reduceEq, Int.reduceLT, Int.reduceLE, Int.natCast_zero, LV.cells, allocL, List.getElem?_cons_zero, List.getElem?_cons_succ, storeL, spliceL, List.take_zero, List.take_succ_cons, List.drop_zero, List.drop_succ_cons, List.drop_nil, List.take_nil, Nat.le_refl, Nat.reduceMul, List.set_cons_zero, List.set_cons_succ, LV.scalar, List.all_cons, List.all_nil, Nat.lt_add_one, Nat.zero_lt_one, Nat.reduceLT, Nat.lt_irrefl, fillL, List.length_append, foldIntL, kind_beq, pures_int, solids_int, plains_int, unders_int, scalars_int, show ¬ ((k : Int) < (s.length : Int)) by omega, List.range'_zero]
  | succ n ih =>
    intro k hk
    have h2 : k < s.length := by omega
    have ih := ih (k + 1) (by omega)
    have hc := fun nl ex sz m => common_c nl ex nl' ex' sz sz' (ci (handL s k)) (ci q) (by have := handL_len s k; simp; omega) (by simpa using hl) m
    rw [ref12_guards.L0_eq, List.range'_succ, List.all_cons]
    simp only [com_hand s k q hq] at hc
    cases h : q.any fun u => nb s k u
    · simp only [h] at hc
      simp only [ref12_guards.B0, beqT, beqF, exF_seq, exF_region, exF_block, exF_cond, exF_ret, exF_exit, exF_skip, runL, wantL, stepL, evL, LEnv.at, putL, loadFine, loadL, cellsAt, Trk.putNew, Trk.up, Trk.touch, Trk.gives, Trk.calm, Trk.hit, opdsOf, Trk.fresh, LEnv.keep, LEnv.ofFrom, List.map_cons, List.map_nil, nbeq, nble, nblt, ofAV, ofAVs, lenL, bin_add, bin_sub, bin_mul, bin_eql, bin_neq, bin_lss, bin_leq, bin_gtr, bin_geq, natL_nat, natL_zero, natL_one, natL_two, Nat.zero_mul, List.any_cons, List.any_nil, Bool.or_false, Bool.false_or, Bool.true_or, Bool.or_true, Bool.and_true, Bool.true_and, Bool.and_false, Bool.false_and, Bool.not_true, Bool.not_false, Nat.reduceBEq, Nat.reduceEqDiff, decide_true, decide_false, cond_true, cond_false, List.filter_nil, List.filter_cons, Nat.reduceAdd, Nat.reduceLeDiff, reduceCtorEq, List.length_nil, List.length_cons, Nat.mul_one, if_true, if_false, Bool.false_eq_true, eq_self, and_true, true_and, retL, resultsL, resAllL, resOfL, List.append_nil, List.nil_append, List.cons_append, true_or, or_true, false_or, or_false, false_and, and_false, not_true_eq_false, not_false_eq_true, ne_eq, unL, trim_nil, views_pures, LV.pures, LV.pure, freeze, Nat.reduceDiv, Int.reduceEq, Int.reduceLT, Int.reduceLE, Int.natCast_zero, LV.cells, allocL, List.getElem?_cons_zero, List.getElem?_cons_succ, storeL, spliceL, List.take_zero, List.take_succ_cons, List.drop_zero, List.drop_succ_cons, List.drop_nil, List.take_nil, Nat.le_refl, Nat.reduceMul, List.set_cons_zero, List.set_cons_succ, LV.scalar, List.all_cons, List.all_nil, Nat.lt_add_one, Nat.zero_lt_one, Nat.reduceLT, Nat.lt_irrefl, fillL, List.length_append, foldIntL, kind_beq, pures_int, solids_int, plains_int, unders_int, scalars_int, show ((k : Int) < (s.length : Int)) by omega, rhand_c nl ex sz s h10 k h2, hc]
    · simp only [h] at hc
      simp only [ref12_guards.B0, beqT, beqF, exF_seq, exF_region, exF_block, exF_cond, exF_ret, exF_exit, exF_skip, runL, wantL, stepL, evL, LEnv.at, putL, loadFine, loadL, cellsAt, Trk.putNew, Trk.up, Trk.touch, Trk.gives, Trk.calm, Trk.hit, opdsOf, Trk.fresh, LEnv.keep, LEnv.ofFrom, List.map_cons, List.map_nil, nbeq, nble, nblt, ofAV, ofAVs, lenL, bin_add, bin_sub, bin_mul, bin_eql, bin_neq, bin_lss, bin_leq, bin_gtr, bin_geq, natL_nat, natL_zero, natL_one, natL_two, Nat.zero_mul, List.any_cons, List.any_nil, Bool.or_false, Bool.false_or, Bool.true_or, Bool.or_true, Bool.and_true, Bool.true_and, Bool.and_false, Bool.false_and, Bool.not_true, Bool.not_false, Nat.reduceBEq, Nat.reduceEqDiff, decide_true, decide_false, cond_true, cond_false, List.filter_nil, List.filter_cons, Nat.reduceAdd, Nat.reduceLeDiff, reduceCtorEq, List.length_nil, List.length_cons, Nat.mul_one, if_true, if_false, Bool.false_eq_true, eq_self, and_true, true_and, retL, resultsL, resAllL, resOfL, List.append_nil, List.nil_append, List.cons_append, true_or, or_true, false_or, or_false, false_and, and_false, not_true_eq_false, not_false_eq_true, ne_eq, unL, trim_nil, views_pures, LV.pures, LV.pure, freeze, Nat.reduceDiv, Int.reduceEq, Int.reduceLT, Int.reduceLE, Int.natCast_zero, LV.cells, allocL, List.getElem?_cons_zero, List.getElem?_cons_succ, storeL, spliceL, List.take_zero, List.take_succ_cons, List.drop_zero, List.drop_succ_cons, List.drop_nil, List.take_nil, Nat.le_refl, Nat.reduceMul, List.set_cons_zero, List.set_cons_succ, LV.scalar, List.all_cons, List.all_nil, Nat.lt_add_one, Nat.zero_lt_one, Nat.reduceLT, Nat.lt_irrefl, fillL, List.length_append, foldIntL, kind_beq, pures_int, solids_int, plains_int, unders_int, scalars_int, show ((k : Int) < (s.length : Int)) by omega, rhand_c nl ex sz s h10 k h2, hc, wrap_succ (show k + 1 < 9223372036854775808 by omega), ih]
theorem rguards_c (nl ex nl' ex' : Bool) (sz sz' : Nat) (s : List Int) (h10 : s.length ≤ 10) (q : List Nat) (hq : ∀ x ∈ q, x < s.length) (hl : q.length < 1000000) (m : LMem) :
    clF LP n_ref12_guards [IL nl ex sz s, IL nl' ex' sz' (ci q)] m = some (.P, .bool (grdB s q), m) := by
  refine call_P lp_ref12_guards rfl (by simp [LV.pures, LV.pure]) (m1 := []) ?_ rfl m
  have h := rguards_loop nl ex nl' ex' sz sz' s h10 q hq hl s.length 0 (by omega)
  simp only [Int.natCast_zero] at h
  unfold grdB
  rw [List.range_eq_range']
  cases hg : (List.range' 0 s.length).all fun v => q.any fun u => nb s v u
  · rw [hg] at h
    simp only [ref12_guards, ref12_guards.B, beqT, beqF, exF_seq, exF_region, exF_block, exF_cond, exF_ret, exF_exit, exF_skip, runL, wantL, stepL, evL, LEnv.at, putL, loadFine, loadL, cellsAt, Trk.putNew, Trk.up, Trk.touch, Trk.gives, Trk.calm, Trk.hit, opdsOf, Trk.fresh, LEnv.keep, LEnv.ofFrom, List.map_cons, List.map_nil, nbeq, nble, nblt, ofAV, ofAVs, lenL, bin_add, bin_sub, bin_mul, bin_eql, bin_neq, bin_lss, bin_leq, bin_gtr, bin_geq, natL_nat, natL_zero, natL_one, natL_two, Nat.zero_mul, List.any_cons, List.any_nil, Bool.or_false, Bool.false_or, Bool.true_or, Bool.or_true, Bool.and_true, Bool.true_and, Bool.and_false, Bool.false_and, Bool.not_true, Bool.not_false, Nat.reduceBEq, Nat.reduceEqDiff, decide_true, decide_false, cond_true, cond_false, List.filter_nil, List.filter_cons, Nat.reduceAdd, Nat.reduceLeDiff, reduceCtorEq, List.length_nil, List.length_cons, Nat.mul_one, if_true, if_false, Bool.false_eq_true, eq_self, and_true, true_and, retL, resultsL, resAllL, resOfL, List.append_nil, List.nil_append, List.cons_append, true_or, or_true, false_or, or_false, false_and, and_false, not_true_eq_false, not_false_eq_true, ne_eq, unL, trim_nil, views_pures, LV.pures, LV.pure, freeze, Nat.reduceDiv, Int.reduceEq, Int.reduceLT, Int.reduceLE, Int.natCast_zero, LV.cells, allocL, List.getElem?_cons_zero, List.getElem?_cons_succ, storeL, spliceL, List.take_zero, List.take_succ_cons, List.drop_zero, List.drop_succ_cons, List.drop_nil, List.take_nil, Nat.le_refl, Nat.reduceMul, List.set_cons_zero, List.set_cons_succ, LV.scalar, List.all_cons, List.all_nil, Nat.lt_add_one, Nat.zero_lt_one, Nat.reduceLT, Nat.lt_irrefl, fillL, List.length_append, foldIntL, kind_beq, pures_int, solids_int, plains_int, unders_int, scalars_int, h]
  · rw [hg] at h
    simp only [ref12_guards, ref12_guards.B, beqT, beqF, exF_seq, exF_region, exF_block, exF_cond, exF_ret, exF_exit, exF_skip, runL, wantL, stepL, evL, LEnv.at, putL, loadFine, loadL, cellsAt, Trk.putNew, Trk.up, Trk.touch, Trk.gives, Trk.calm, Trk.hit, opdsOf, Trk.fresh, LEnv.keep, LEnv.ofFrom, List.map_cons, List.map_nil, nbeq, nble, nblt, ofAV, ofAVs, lenL, bin_add, bin_sub, bin_mul, bin_eql, bin_neq, bin_lss, bin_leq, bin_gtr, bin_geq, natL_nat, natL_zero, natL_one, natL_two, Nat.zero_mul, List.any_cons, List.any_nil, Bool.or_false, Bool.false_or, Bool.true_or, Bool.or_true, Bool.and_true, Bool.true_and, Bool.and_false, Bool.false_and, Bool.not_true, Bool.not_false, Nat.reduceBEq, Nat.reduceEqDiff, decide_true, decide_false, cond_true, cond_false, List.filter_nil, List.filter_cons, Nat.reduceAdd, Nat.reduceLeDiff, reduceCtorEq, List.length_nil, List.length_cons, Nat.mul_one, if_true, if_false, Bool.false_eq_true, eq_self, and_true, true_and, retL, resultsL, resAllL, resOfL, List.append_nil, List.nil_append, List.cons_append, true_or, or_true, false_or, or_false, false_and, and_false, not_true_eq_false, not_false_eq_true, ne_eq, unL, trim_nil, views_pures, LV.pures, LV.pure, freeze, Nat.reduceDiv, Int.reduceEq, Int.reduceLT, Int.reduceLE, Int.natCast_zero, LV.cells, allocL, List.getElem?_cons_zero, List.getElem?_cons_succ, storeL, spliceL, List.take_zero, List.take_succ_cons, List.drop_zero, List.drop_succ_cons, List.drop_nil, List.take_nil, Nat.le_refl, Nat.reduceMul, List.set_cons_zero, List.set_cons_succ, LV.scalar, List.all_cons, List.all_nil, Nat.lt_add_one, Nat.zero_lt_one, Nat.reduceLT, Nat.lt_irrefl, fillL, List.length_append, foldIntL, kind_beq, pures_int, solids_int, plains_int, unders_int, scalars_int, h]
end Go.Am.Post

