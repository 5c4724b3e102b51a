/-
  What functions of chapter 13 compute, 6: where things are after some tides.
-/
import Derived.Test.YtgogknjedpmcgaaWashC5
set_option linter.unusedVariables false
set_option linter.unusedSimpArgs false
set_option maxRecDepth 10000
namespace Go.Am.Wash
open Go.Am.G

theorem tmod_bound (a : Int) (m : Nat) (hm : 0 < m) : -(m : Int) < a.tmod (m : Int) ∧ a.tmod (m : Int) < (m : Int) :=
  ⟨Int.lt_tmod_of_pos a (by omega), Int.tmod_lt_of_pos a (by omega)⟩
theorem after_inner (T : Int) (hT : -1000000000 ≤ T ∧ T ≤ 1000000000) (N : Nat) (l : List Nat) (hl0 : 0 < l.length) (hl8 : l.length < 8) (hx : ∀ x ∈ l, x < N) (w27 w28 w29 : LV) (n : Nat) : ∀ (i : Nat) (o : List Nat), i + n = l.length → o.length = N →
    exF LP wash_After.L0 [(1, .int .i64 T), (7, .sl 0 0 N N 0 1 N), (9, RLn l), (10, .int .i64 (l.length : Int)), (27, w27), (28, w28), (29, w29), (35, RLn l), (36, .int .i64 (l.length : Int)), (37, .int .i64 (i : Int))] [⟨ints (ci o), true⟩] =
      some (.exit 3, [(1, .int .i64 T), (7, .sl 0 0 N N 0 1 N), (27, w27), (28, w28), (29, w29)], [⟨ints (ci (aIn l T n i o)), true⟩]) := by
  induction n with
  | zero =>
    intro i o hi ho
    rw [wash_After.L0_eq]
    simp only [wash_After.B0, beqT, beqF, exF_seq, exF_region, exF_block, exF_cond, exF_ret, exF_exit, exF_skip, runL, wantL, stepL, evL, LEnv.at, putL, loadFine, loadL, cellsAt, Trk.putNew, Trk.up, Trk.touch, Trk.gives, Trk.calm, Trk.hit, opdsOf, Trk.fresh, LEnv.keep, LEnv.ofFrom, List.map_cons, List.map_nil, nbeq, nble, nblt, ofAV, ofAVs, lenL, bin_add, bin_sub, bin_mul, bin_eql, bin_neq, bin_lss, bin_leq, bin_gtr, bin_geq, natL_nat, natL_zero, natL_one, natL_two, Nat.zero_mul, List.any_cons, List.any_nil, Bool.or_false, Bool.false_or, Bool.true_or, Bool.or_true, Bool.and_true, Bool.true_and, Bool.and_false, Bool.false_and, Bool.not_true, Bool.not_false, Nat.reduceBEq, Nat.reduceEqDiff, decide_true, decide_false, cond_true, cond_false, List.filter_nil, List.filter_cons, Nat.reduceAdd, Nat.reduceLeDiff, reduceCtorEq, List.length_nil, List.length_cons, Nat.mul_one, if_true, if_false, Bool.false_eq_true, eq_self, and_true, true_and, retL, resultsL, resAllL, resOfL, List.append_nil, List.nil_append, List.cons_append, true_or, or_true, false_or, or_false, false_and, and_false, not_true_eq_false, not_false_eq_true, ne_eq, unL, trim_nil, views_pures, LV.pures, LV.pure, freeze, Nat.reduceDiv, Int.reduceEq, Int.reduceLT, Int.reduceLE, Int.natCast_zero, LV.cells, allocL, List.getElem?_cons_zero, List.getElem?_cons_succ, storeL, spliceL, List.take_zero, List.take_succ_cons, List.drop_zero, List.drop_succ_cons, List.drop_nil, List.take_nil, Nat.le_refl, Nat.reduceMul, List.set_cons_zero, List.set_cons_succ, LV.scalar, List.all_cons, List.all_nil, Nat.lt_add_one, Nat.zero_lt_one, Nat.reduceLT, Nat.lt_irrefl, fillL, List.length_append, foldIntL, kind_beq, pures_int, solids_int, plains_int, unders_int, scalars_int, show ¬ ((i : Int) < (l.length : Int)) by omega, aIn]
  | succ n ih =>
    intro i o hi ho
    have h2 : i < l.length := by omega
    have hp := hx _ (List.getElem_mem h2)
    have hne : ((l.length : Nat) : Int) ≠ 0 := by omega
    have hid : idxI i T l.length = ((i : Int) + T) % (l.length : Int) := tmod2 _ _ hl0
    obtain ⟨e, hee⟩ := Int.eq_ofNat_of_zero_le (show 0 ≤ ((i : Int) + T) % (l.length : Int) from Int.emod_nonneg _ hne)
    have hel : e < l.length := by have := Int.emod_lt_of_pos ((i : Int) + T) (show 0 < (l.length : Int) by omega); omega
    have htb := tmod_bound ((i : Int) + T) l.length hl0
    have hw1 : IntKind.i64.wrap ((i : Int) + T) = (i : Int) + T := wrap_in (by omega)
    have hw2 : IntKind.i64.wrap (((i : Int) + T).tmod (l.length : Int) + (l.length : Int)) = ((i : Int) + T).tmod (l.length : Int) + (l.length : Int) := wrap_in (by omega)
    have hw3 : (((i : Int) + T).tmod (l.length : Int) + (l.length : Int)).tmod (l.length : Int) = (e : Int) := by
      have : (((i : Int) + T).tmod (l.length : Int) + (l.length : Int)).tmod (l.length : Int) = idxI i T l.length := rfl
      rw [this, hid, hee]
    have ea : aIn l T (n + 1) i o = aIn l T n (i + 1) (o.set l[i] l[e]) := by
      rw [aIn, hid, hee, Int.toNat_natCast, nth_at l i h2, nth_at l e hel]
    have ih := ih (i + 1) (o.set l[i] l[e]) (by omega) (by simpa using ho)
    have hoc : (ints (ci o)).length = N := by simp [ho]
    have hst : (ints (ci o)).take l[i] ++ [.int .i64 ((l[e] : Nat) : Int)] ++ (ints (ci o)).drop (l[i] + 1) = ints (ci (o.set l[i] l[e])) := by
      have := set_int .i64 (ci o) l[i] ((l[e] : Nat) : Int) (by rw [ci_len]; omega)
      rw [ints, this]
      simp [List.map_set]
    have hRl : ∀ j (h : j < l.length), (ints (ci l))[j]? = some (.int .i64 ((l[j] : Nat) : Int)) := fun j h => by rw [ints, ci_map]; exact nat_at _ _ _ h
    rw [wash_After.L0_eq, ea]
    simp only [wash_After.B0, beqT, beqF, exF_seq, exF_region, exF_block, exF_cond, exF_ret, exF_exit, exF_skip, runL, wantL, stepL, evL, LEnv.at, putL, loadFine, loadL, cellsAt, Trk.putNew, Trk.up, Trk.touch, Trk.gives, Trk.calm, Trk.hit, opdsOf, Trk.fresh, LEnv.keep, LEnv.ofFrom, List.map_cons, List.map_nil, nbeq, nble, nblt, ofAV, ofAVs, lenL, bin_add, bin_sub, bin_mul, bin_eql, bin_neq, bin_lss, bin_leq, bin_gtr, bin_geq, natL_nat, natL_zero, natL_one, natL_two, Nat.zero_mul, List.any_cons, List.any_nil, Bool.or_false, Bool.false_or, Bool.true_or, Bool.or_true, Bool.and_true, Bool.true_and, Bool.and_false, Bool.false_and, Bool.not_true, Bool.not_false, Nat.reduceBEq, Nat.reduceEqDiff, decide_true, decide_false, cond_true, cond_false, List.filter_nil, List.filter_cons, Nat.reduceAdd, Nat.reduceLeDiff, reduceCtorEq, List.length_nil, List.length_cons, Nat.mul_one, if_true, if_false, Bool.false_eq_true, eq_self, and_true, true_and, retL, resultsL, resAllL, resOfL, List.append_nil, List.nil_append, List.cons_append, true_or, or_true, false_or, or_false, false_and, and_false, not_true_eq_false, not_false_eq_true, ne_eq, unL, trim_nil, views_pures, LV.pures, LV.pure, freeze, Nat.reduceDiv, Int.reduceEq, Int.reduceLT, Int.reduceLE, Int.natCast_zero, LV.cells, allocL, List.getElem?_cons_zero, List.getElem?_cons_succ, storeL, spliceL, List.take_zero, List.take_succ_cons, List.drop_zero, List.drop_succ_cons, List.drop_nil, List.take_nil, Nat.le_refl, Nat.reduceMul, List.set_cons_zero, List.set_cons_succ, LV.scalar, List.all_cons, List.all_nil, Nat.lt_add_one, Nat.zero_lt_one, Nat.reduceLT, Nat.lt_irrefl, fillL, List.length_append, foldIntL, kind_beq, pures_int, solids_int, plains_int, unders_int, scalars_int, ci_len, show ((i : Int) < (l.length : Int)) by omega, h2, hRl i h2, hw1, bin_rem _ _ _ hne, hw2, hw3, hel, hRl e hel, hp, Nat.zero_add, hoc, show l[i] + 1 ≤ N by omega, hst, wrap_succ (show i + 1 < 9223372036854775808 by omega), ih]
theorem after_outer (T : Int) (hT : -1000000000 ≤ T ∧ T ≤ 1000000000) (N : Nat) (a b : Bool) (R : List (List Nat)) (hR : ∀ l ∈ R, 0 < l.length ∧ l.length < 8 ∧ ∀ x ∈ l, x < N) (hlen : R.length ≤ 100) (n : Nat) : ∀ (k : Nat) (o : List Nat), k + n = R.length → o.length = N →
    exF LP wash_After.L1 [(1, .int .i64 T), (7, .sl 0 0 N N 0 1 N), (27, .lst a b 1 R.length (rowsL R)), (28, .int .i64 (R.length : Int)), (29, .int .i64 (k : Int))] [⟨ints (ci o), true⟩] =
      some (.exit 1, [(7, .sl 0 0 N N 0 1 N)], [⟨ints (ci (aOut T (R.drop k) o)), true⟩]) := by
  induction n with
  | zero =>
    intro k o hk ho
    rw [wash_After.L1_eq]
    simp only [wash_After.B1, beqT, beqF, exF_seq, exF_region, exF_block, exF_cond, exF_ret, exF_exit, exF_skip, runL, wantL, stepL, evL, LEnv.at, putL, loadFine, loadL, cellsAt, Trk.putNew, Trk.up, Trk.touch, Trk.gives, Trk.calm, Trk.hit, opdsOf, Trk.fresh, LEnv.keep, LEnv.ofFrom, List.map_cons, List.map_nil, nbeq, nble, nblt, ofAV, ofAVs, lenL, bin_add, bin_sub, bin_mul, bin_eql, bin_neq, bin_lss, bin_leq, bin_gtr, bin_geq, natL_nat, natL_zero, natL_one, natL_two, Nat.zero_mul, List.any_cons, List.any_nil, Bool.or_false, Bool.false_or, Bool.true_or, Bool.or_true, Bool.and_true, Bool.true_and, Bool.and_false, Bool.false_and, Bool.not_true, Bool.not_false, Nat.reduceBEq, Nat.reduceEqDiff, decide_true, decide_false, cond_true, cond_false, List.filter_nil, List.filter_cons, Nat.reduceAdd, Nat.reduceLeDiff, reduceCtorEq, List.length_nil, List.length_cons, Nat.mul_one, if_true, if_false, Bool.false_eq_true, eq_self, and_true, true_and, retL, resultsL, resAllL, resOfL, List.append_nil, List.nil_append, List.cons_append, true_or, or_true, false_or, or_false, false_and, and_false, not_true_eq_false, not_false_eq_true, ne_eq, unL, trim_nil, views_pures, LV.pures, LV.pure, freeze, Nat.reduceDiv, Int.reduceEq, Int.reduceLT, Int.reduceLE, Int.natCast_zero, LV.cells, allocL, List.getElem?_cons_zero, List.getElem?_cons_succ, storeL, spliceL, List.take_zero, List.take_succ_cons, List.drop_zero, List.drop_succ_cons, List.drop_nil, List.take_nil, Nat.le_refl, Nat.reduceMul, List.set_cons_zero, List.set_cons_succ, LV.scalar, List.all_cons, List.all_nil, Nat.lt_add_one, Nat.zero_lt_one, Nat.reduceLT, Nat.lt_irrefl, fillL, List.length_append, foldIntL, kind_beq, pures_int, solids_int, plains_int, unders_int, scalars_int, show ¬ ((k : Int) < (R.length : Int)) by omega, List.drop_eq_nil_of_le (show R.length ≤ k by omega), aOut]
  | succ n ih =>
    intro k o hk ho
    have h2 : k < R.length := by omega
    obtain ⟨r1, r2, r3⟩ := hR _ (List.getElem_mem h2)
    have hin := after_inner T hT N R[k] r1 r2 r3 (.lst a b 1 R.length (rowsL R)) (.int .i64 (R.length : Int)) (.int .i64 (k : Int)) R[k].length 0 o (by omega) ho
    simp only [Int.natCast_zero] at hin
    have ih := ih (k + 1) (aIn R[k] T R[k].length 0 o) (by omega) (by rw [aIn_len, ho])
    rw [wash_After.L1_eq, List.drop_eq_getElem_cons h2, aOut]
    simp only [wash_After.B1, beqT, beqF, exF_seq, exF_region, exF_block, exF_cond, exF_ret, exF_exit, exF_skip, runL, wantL, stepL, evL, LEnv.at, putL, loadFine, loadL, cellsAt, Trk.putNew, Trk.up, Trk.touch, Trk.gives, Trk.calm, Trk.hit, opdsOf, Trk.fresh, LEnv.keep, LEnv.ofFrom, List.map_cons, List.map_nil, nbeq, nble, nblt, ofAV, ofAVs, lenL, bin_add, bin_sub, bin_mul, bin_eql, bin_neq, bin_lss, bin_leq, bin_gtr, bin_geq, natL_nat, natL_zero, natL_one, natL_two, Nat.zero_mul, List.any_cons, List.any_nil, Bool.or_false, Bool.false_or, Bool.true_or, Bool.or_true, Bool.and_true, Bool.true_and, Bool.and_false, Bool.false_and, Bool.not_true, Bool.not_false, Nat.reduceBEq, Nat.reduceEqDiff, decide_true, decide_false, cond_true, cond_false, List.filter_nil, List.filter_cons, Nat.reduceAdd, Nat.reduceLeDiff, reduceCtorEq, List.length_nil, List.length_cons, Nat.mul_one, if_true, if_false, Bool.false_eq_true, eq_self, and_true, true_and, retL, resultsL, resAllL, resOfL, List.append_nil, List.nil_append, List.cons_append, true_or, or_true, false_or, or_false, false_and, and_false, not_true_eq_false, not_false_eq_true, ne_eq, unL, trim_nil, views_pures, LV.pures, LV.pure, freeze, Nat.reduceDiv, Int.reduceEq, Int.reduceLT, Int.reduceLE, Int.natCast_zero, LV.cells, allocL, List.getElem?_cons_zero, List.getElem?_cons_succ, storeL, spliceL, List.take_zero, List.take_succ_cons, List.drop_zero, List.drop_succ_cons, List.drop_nil, List.take_nil, Nat.le_refl, Nat.reduceMul, List.set_cons_zero, List.set_cons_succ, LV.scalar, List.all_cons, List.all_nil, Nat.lt_add_one, Nat.zero_lt_one, Nat.reduceLT, Nat.lt_irrefl, fillL, List.length_append, foldIntL, kind_beq, pures_int, solids_int, plains_int, unders_int, scalars_int, ci_len, show ((k : Int) < (R.length : Int)) by omega, h2, rowsL_at _ _ h2, hin, wrap_succ (show k + 1 < 9223372036854775808 by omega), ih]
theorem afterP_c (nl ex : Bool) {t : List Nat} (D : Td t) {R : List (List Nat)} {n : Nat} (K : Known t R n) (hc : chkT (ci t) = 0) (T : Int) (hT : inB (-1000000000) 1000000000 T = true) : ∃ a b, ∀ m, clF LP n_wash_After [IL nl ex 1 (ci t), .int .i64 T] m = some (.P, .tup [IL a b 1 (ci (aftV t (T % (n : Int)).toNat)), .int .i64 0], m) := by
  have h7 := D.h7
  have hT' : -1000000000 ≤ T ∧ T ≤ 1000000000 := by simpa [inB] using hT
  have hck := fun m => check_c nl ex 1 (ci t) (by rw [ci_len]; omega) m
  rw [hc] at hck
  obtain ⟨a, b, hr⟩ := rings_c nl ex 1 t h7 D.lt7 R K.hp (by intro c; have := K.h0; rw [c] at this; simp at this)
  have ho := after_outer T hT' t.length a b R (fun l hl => ⟨(K.rows l hl).1, (K.rows l hl).2.1, (K.rows l hl).2.2.2⟩) (by have := K.h8; omega) R.length 0 (List.replicate t.length 0) (by omega) (by simp)
  rw [List.drop_zero, aft_prog K T] at ho
  simp only [Int.natCast_zero] at ho
  have hz : zerosL [.int .i64 0] t.length = ints (ci (List.replicate t.length 0)) := by rw [zeros_int]; simp
  have r1 : t.length * 8 ≤ roomMost := by unfold roomMost; omega
  have r2 : t.length ≤ roomMost := by unfold roomMost; omega
  have hal : (aftV t (T % (n : Int)).toNat).length = t.length := by simp [aftV]
  generalize aftV t (T % (n : Int)).toNat = w at *
  have hv : view 40 [⟨ints (ci w), true⟩] (.tup [.sl 0 0 t.length t.length 0 1 t.length, .int .i64 0]) = some (.tup [IL false true 1 (ci w), .int .i64 0], [0]) := by
    refine view_tup2 _ _ _ _ _ (fun k => ?_) rfl (by simp [LV.pures, LV.pure])
    have := view_sl k [⟨ints (ci w), true⟩] 0 0 t.length t.length 0 (ci w) true rfl (by rw [ci_len]; exact hal) (by omega) t.length (by omega)
    rw [List.drop_zero, List.take_of_length_le (by rw [ci_len]; omega)] at this
    rw [this]
    simp [nbeq]
  refine ⟨false, true, fun m => call_Pv lp_wash_After rfl (by simp [LV.pures, LV.pure]) ?_ hv m⟩
  simp only [wash_After, wash_After.B, beqT, beqF, exF_seq, exF_region, exF_block, exF_cond, exF_ret, exF_exit, exF_skip, runL, wantL, stepL, evL, LEnv.at, putL, loadFine, loadL, cellsAt, Trk.putNew, Trk.up, Trk.touch, Trk.gives, Trk.calm, Trk.hit, opdsOf, Trk.fresh, LEnv.keep, LEnv.ofFrom, List.map_cons, List.map_nil, nbeq, nble, nblt, ofAV, ofAVs, lenL, bin_add, bin_sub, bin_mul, bin_eql, bin_neq, bin_lss, bin_leq, bin_gtr, bin_geq, natL_nat, natL_zero, natL_one, natL_two, Nat.zero_mul, List.any_cons, List.any_nil, Bool.or_false, Bool.false_or, Bool.true_or, Bool.or_true, Bool.and_true, Bool.true_and, Bool.and_false, Bool.false_and, Bool.not_true, Bool.not_false, Nat.reduceBEq, Nat.reduceEqDiff, decide_true, decide_false, cond_true, cond_false, List.filter_nil, List.filter_cons, Nat.reduceAdd, Nat.reduceLeDiff, reduceCtorEq, List.length_nil, List.length_cons, Nat.mul_one, if_true, if_false, Bool.false_eq_true, eq_self, and_true, true_and, retL, resultsL, resAllL, resOfL, List.append_nil, List.nil_append, List.cons_append, true_or, or_true, false_or, or_false, false_and, and_false, not_true_eq_false, not_false_eq_true, ne_eq, unL, trim_nil, views_pures, LV.pures, LV.pure, freeze, Nat.reduceDiv, Int.reduceEq, Int.reduceLT, Int.reduceLE, Int.natCast_zero, LV.cells, allocL, List.getElem?_cons_zero, List.getElem?_cons_succ, storeL, spliceL, List.take_zero, List.take_succ_cons, List.drop_zero, List.drop_succ_cons, List.drop_nil, List.take_nil, Nat.le_refl, Nat.reduceMul, List.set_cons_zero, List.set_cons_succ, LV.scalar, List.all_cons, List.all_nil, Nat.lt_add_one, Nat.zero_lt_one, Nat.reduceLT, Nat.lt_irrefl, fillL, List.length_append, foldIntL, kind_beq, pures_int, solids_int, plains_int, unders_int, scalars_int, ci_len, hck, within_c, hT, hr, r1, r2, hz, ho]
end Go.Am.Wash

