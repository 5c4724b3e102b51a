/-
  What functions of chapter 12 compute, by tables 9: the law 'PostCheap', joined.
-/
import Derived.Test.YthnaeifkngeenaaDoorPdE5
import Derived.Test.YthnaeifkngeenaaDoorPdE5
set_option linter.unusedVariables false
set_option linter.unusedSimpArgs false
set_option maxRecDepth 10000
set_option maxHeartbeats 2000000
namespace Go.Am.Post
open Go.Am.G

theorem prC_at {pr : List Int} {n : Nat} (hpl : pr.length = n) (hr : ∀ x ∈ pr, 1 ≤ x ∧ x ≤ 20) {i : Nat} (hi : i < n) : (ints pr)[i]? = some (.int .i64 ((prC pr i : Nat) : Int)) ∧ prC pr i ≤ 20 := by
  have h2 : i < pr.length := by omega
  have hx := hr _ (List.getElem_mem h2)
  have hg : pr.getD i 0 = pr[i] := by simp [List.getD_eq_getElem?_getD, h2]
  have e : ((prC pr i : Nat) : Int) = pr[i] := by rw [prC, hg]; omega
  refine ⟨?_, by rw [prC, hg]; omega⟩
  rw [e]; simp [h2]
theorem cost_loop (S H V10 V12 V13 V14 R V56 V57 : LV) (n : Nat) {pr : List Int} (hpl : pr.length = n) (hr : ∀ x ∈ pr, 1 ≤ x ∧ x ≤ 20) (q : List Nat) (hq : ∀ x ∈ q, x < n) (hl : q.length ≤ 10) (c e : Bool) (z : Nat) (m : LMem) (o : Bool) (hm : m[2]? = some ⟨ints pr, o⟩) (d : Nat) : ∀ (k acc : Nat), k + d = q.length → acc + 20 * d ≤ 1000 →
    exF LP law12_PostCheap.L1 [(7, S), (8, H), (9, .sl 2 0 n n 1 1 n), (10, V10), (12, V12), (13, V13), (14, V14), (16, R), (17, .int .i64 (acc : Int)), (56, V56), (57, V57), (66, IL c e z (ci q)), (67, .int .i64 (q.length : Int)), (68, .int .i64 (k : Int))] m =
      some (.exit 4 , [(7, S), (8, H), (9, .sl 2 0 n n 1 1 n), (10, V10), (12, V12), (13, V13), (14, V14), (16, R), (17, .int .i64 ((acc + cost (prC pr) (q.drop k) : Nat) : Int)), (56, V56), (57, V57)], m) := by
  induction d with
  | zero =>
    intro k acc hk _
    rw [law12_PostCheap.L1_eq, List.drop_eq_nil_of_le (show q.length ≤ k by omega)]
    simp (maxSteps := 1000000) only [law12_PostCheap.B1, beqT, beqF, exF_seq, exF_region, exF_block, exF_cond, exF_ret, exF_exit, exF_skip, runL, wantL, stepL, evL, evC, LEnv.at, putL, loadFine, loadL, cellsAt, Trk.putNew, Trk.up, Trk.touch, Trk.gives, Trk.calm, Trk.hit, opdsOf, Trk.fresh, LEnv.keep, LEnv.ofFrom, List.map_cons, List.map_nil, nbeq, nble, nblt, ofAV, ofAVs, lenL, bin_add, bin_sub, bin_mul, bin_eql, bin_neq, bin_lss, bin_leq, bin_gtr, bin_geq, natL_nat, natL_zero, natL_one, natL_two, Nat.zero_mul, List.any_cons, List.any_nil, Bool.or_false, Bool.false_or, Bool.true_or, Bool.or_true, Bool.and_true, Bool.true_and, Bool.and_false, Bool.false_and, Bool.not_true, Bool.not_false, Nat.reduceBEq, Nat.reduceEqDiff, decide_true, decide_false, cond_true, cond_false, List.filter_nil, List.filter_cons, Nat.reduceAdd, Nat.reduceLeDiff, reduceCtorEq, List.length_nil, List.length_cons, Nat.mul_one, if_true, if_false, Bool.false_eq_true, eq_self, and_true, true_and, retL, resultsL, resAllL, resOfL, List.append_nil, List.nil_append, List.cons_append, true_or, or_true, false_or, or_false, false_and, and_false, not_true_eq_false, not_false_eq_true, ne_eq, unL, trim_nil, views_pures, LV.pures, LV.pure, freeze, Nat.reduceDiv, Int.reduceEq, Int.reduceLT, Int.reduceLE, Int.natCast_zero, LV.cells, allocL, List.getElem?_cons_zero, List.getElem?_cons_succ, storeL, spliceL, List.take_zero, List.take_succ_cons, List.drop_zero, List.drop_succ_cons, List.drop_nil, List.take_nil, Nat.le_refl, Nat.reduceMul, List.set_cons_zero, List.set_cons_succ, LV.scalar, List.all_cons, List.all_nil, Nat.lt_add_one, Nat.zero_lt_one, Nat.reduceLT, Nat.lt_irrefl, fillL, List.length_append, foldIntL, kind_beq, pures_int, solids_int, plains_int, unders_int, scalars_int, show ¬ ((k : Int) < (q.length : Int)) by omega, cost, Nat.add_zero, List.sum_nil]
  | succ d ih =>
    intro k acc hk ha
    have h2 : k < q.length := by omega
    have hci := ci_at q k h2
    have hx := hq _ (List.getElem_mem h2)
    obtain ⟨hat, h20⟩ := prC_at hpl hr hx
    have ih := ih (k + 1) (acc + prC pr q[k]) (by omega) (by omega)
    have hcl : (ci q).length = q.length := by simp
    have hil : (ints pr).length = n := by simp [hpl]
    have hw : IntKind.i64.wrap ((acc : Int) + ((prC pr q[k] : Nat) : Int)) = ((acc + prC pr q[k] : Nat) : Int) := by rw [wrap_in (by omega)]; simp
    have hws := wrap_succ (show k + 1 < 9223372036854775808 by omega)
    rw [law12_PostCheap.L1_eq, List.drop_eq_getElem_cons h2, cost_cons, ← Nat.add_assoc]
    generalize prC pr q[k] = y at *
    generalize acc + y = acc' at *
    generalize q[k] = j at *
    simp (maxSteps := 1000000) only [law12_PostCheap.B1, beqT, beqF, exF_seq, exF_region, exF_block, exF_cond, exF_ret, exF_exit, exF_skip, runL, wantL, stepL, evL, evC, LEnv.at, putL, loadFine, loadL, cellsAt, Trk.putNew, Trk.up, Trk.touch, Trk.gives, Trk.calm, Trk.hit, opdsOf, Trk.fresh, LEnv.keep, LEnv.ofFrom, List.map_cons, List.map_nil, nbeq, nble, nblt, ofAV, ofAVs, lenL, bin_add, bin_sub, bin_mul, bin_eql, bin_neq, bin_lss, bin_leq, bin_gtr, bin_geq, natL_nat, natL_zero, natL_one, natL_two, Nat.zero_mul, List.any_cons, List.any_nil, Bool.or_false, Bool.false_or, Bool.true_or, Bool.or_true, Bool.and_true, Bool.true_and, Bool.and_false, Bool.false_and, Bool.not_true, Bool.not_false, Nat.reduceBEq, Nat.reduceEqDiff, decide_true, decide_false, cond_true, cond_false, List.filter_nil, List.filter_cons, Nat.reduceAdd, Nat.reduceLeDiff, reduceCtorEq, List.length_nil, List.length_cons, Nat.mul_one, if_true, if_false, Bool.false_eq_true, eq_self, and_true, true_and, retL, resultsL, resAllL, resOfL, List.append_nil, List.nil_append, List.cons_append, true_or, or_true, false_or, or_false, false_and, and_false, not_true_eq_false, not_false_eq_true, ne_eq, unL, trim_nil, views_pures, LV.pures, LV.pure, freeze, Nat.reduceDiv, Int.reduceEq, Int.reduceLT, Int.reduceLE, Int.natCast_zero, LV.cells, allocL, List.getElem?_cons_zero, List.getElem?_cons_succ, storeL, spliceL, List.take_zero, List.take_succ_cons, List.drop_zero, List.drop_succ_cons, List.drop_nil, List.take_nil, Nat.le_refl, Nat.reduceMul, List.set_cons_zero, List.set_cons_succ, LV.scalar, List.all_cons, List.all_nil, Nat.lt_add_one, Nat.zero_lt_one, Nat.reduceLT, Nat.lt_irrefl, fillL, List.length_append, foldIntL, kind_beq, pures_int, solids_int, plains_int, unders_int, scalars_int, show ((k : Int) < (q.length : Int)) by omega, hcl, h2, hci, hx, hm, Nat.zero_add, hat, hil, hw, hws, ih]
theorem cheap_r0 (S H P V10 V12 R A B : LV) (fd : Bool) (sum least : Nat) (c : Int) (m : LMem) (hc : fd = true → ∀ m, clF LP n_slices_Compare_int_int [R, V12] m = some (.P, .int .i64 c, m)) :
    exF LP law12_PostCheap.B2.R0 [(7, S), (8, H), (9, P), (10, V10), (12, V12), (13, .bool fd), (14, .int .i64 (least : Int)), (16, R), (17, .int .i64 (sum : Int)), (56, A), (57, B)] m =
      some (.normal, [(7, S), (8, H), (9, P), (10, V10), (12, V12), (13, .bool fd), (14, .int .i64 (least : Int)), (16, R), (17, .int .i64 (sum : Int)), (56, A), (57, B), (96, .bool (!fd || (decide (sum < least) || (decide (sum = least) && decide (c < 0)))))], m) := by
  cases fd
  · simp (maxSteps := 1000000) only [law12_PostCheap.B2.R0, beqT, beqF, exF_seq, exF_region, exF_block, exF_cond, exF_ret, exF_exit, exF_skip, runL, wantL, stepL, evL, evC, LEnv.at, putL, loadFine, loadL, cellsAt, Trk.putNew, Trk.up, Trk.touch, Trk.gives, Trk.calm, Trk.hit, opdsOf, Trk.fresh, LEnv.keep, LEnv.ofFrom, List.map_cons, List.map_nil, nbeq, nble, nblt, ofAV, ofAVs, lenL, bin_add, bin_sub, bin_mul, bin_eql, bin_neq, bin_lss, bin_leq, bin_gtr, bin_geq, natL_nat, natL_zero, natL_one, natL_two, Nat.zero_mul, List.any_cons, List.any_nil, Bool.or_false, Bool.false_or, Bool.true_or, Bool.or_true, Bool.and_true, Bool.true_and, Bool.and_false, Bool.false_and, Bool.not_true, Bool.not_false, Nat.reduceBEq, Nat.reduceEqDiff, decide_true, decide_false, cond_true, cond_false, List.filter_nil, List.filter_cons, Nat.reduceAdd, Nat.reduceLeDiff, reduceCtorEq, List.length_nil, List.length_cons, Nat.mul_one, if_true, if_false, Bool.false_eq_true, eq_self, and_true, true_and, retL, resultsL, resAllL, resOfL, List.append_nil, List.nil_append, List.cons_append, true_or, or_true, false_or, or_false, false_and, and_false, not_true_eq_false, not_false_eq_true, ne_eq, unL, trim_nil, views_pures, LV.pures, LV.pure, freeze, Nat.reduceDiv, Int.reduceEq, Int.reduceLT, Int.reduceLE, Int.natCast_zero, LV.cells, allocL, List.getElem?_cons_zero, List.getElem?_cons_succ, storeL, spliceL, List.take_zero, List.take_succ_cons, List.drop_zero, List.drop_succ_cons, List.drop_nil, List.take_nil, Nat.le_refl, Nat.reduceMul, List.set_cons_zero, List.set_cons_succ, LV.scalar, List.all_cons, List.all_nil, Nat.lt_add_one, Nat.zero_lt_one, Nat.reduceLT, Nat.lt_irrefl, fillL, List.length_append, foldIntL, kind_beq, pures_int, solids_int, plains_int, unders_int, scalars_int]
  · have hc := hc rfl
    by_cases q1 : sum < least
    · simp (maxSteps := 1000000) only [law12_PostCheap.B2.R0, beqT, beqF, exF_seq, exF_region, exF_block, exF_cond, exF_ret, exF_exit, exF_skip, runL, wantL, stepL, evL, evC, LEnv.at, putL, loadFine, loadL, cellsAt, Trk.putNew, Trk.up, Trk.touch, Trk.gives, Trk.calm, Trk.hit, opdsOf, Trk.fresh, LEnv.keep, LEnv.ofFrom, List.map_cons, List.map_nil, nbeq, nble, nblt, ofAV, ofAVs, lenL, bin_add, bin_sub, bin_mul, bin_eql, bin_neq, bin_lss, bin_leq, bin_gtr, bin_geq, natL_nat, natL_zero, natL_one, natL_two, Nat.zero_mul, List.any_cons, List.any_nil, Bool.or_false, Bool.false_or, Bool.true_or, Bool.or_true, Bool.and_true, Bool.true_and, Bool.and_false, Bool.false_and, Bool.not_true, Bool.not_false, Nat.reduceBEq, Nat.reduceEqDiff, decide_true, decide_false, cond_true, cond_false, List.filter_nil, List.filter_cons, Nat.reduceAdd, Nat.reduceLeDiff, reduceCtorEq, List.length_nil, List.length_cons, Nat.mul_one, if_true, if_false, Bool.false_eq_true, eq_self, and_true, true_and, retL, resultsL, resAllL, resOfL, List.append_nil, List.nil_append, List.cons_append, true_or, or_true, false_or, or_false, false_and, and_false, not_true_eq_false, not_false_eq_true, ne_eq, unL, trim_nil, views_pures, LV.pures, LV.pure, freeze, Nat.reduceDiv, Int.reduceEq, Int.reduceLT, Int.reduceLE, Int.natCast_zero, LV.cells, allocL, List.getElem?_cons_zero, List.getElem?_cons_succ, storeL, spliceL, List.take_zero, List.take_succ_cons, List.drop_zero, List.drop_succ_cons, List.drop_nil, List.take_nil, Nat.le_refl, Nat.reduceMul, List.set_cons_zero, List.set_cons_succ, LV.scalar, List.all_cons, List.all_nil, Nat.lt_add_one, Nat.zero_lt_one, Nat.reduceLT, Nat.lt_irrefl, fillL, List.length_append, foldIntL, kind_beq, pures_int, solids_int, plains_int, unders_int, scalars_int, q1, show ((sum : Int) < (least : Int)) by omega]
    · by_cases q2 : sum = least
      · subst q2
        by_cases q3 : c < 0
        · simp (maxSteps := 1000000) only [law12_PostCheap.B2.R0, beqT, beqF, exF_seq, exF_region, exF_block, exF_cond, exF_ret, exF_exit, exF_skip, runL, wantL, stepL, evL, evC, LEnv.at, putL, loadFine, loadL, cellsAt, Trk.putNew, Trk.up, Trk.touch, Trk.gives, Trk.calm, Trk.hit, opdsOf, Trk.fresh, LEnv.keep, LEnv.ofFrom, List.map_cons, List.map_nil, nbeq, nble, nblt, ofAV, ofAVs, lenL, bin_add, bin_sub, bin_mul, bin_eql, bin_neq, bin_lss, bin_leq, bin_gtr, bin_geq, natL_nat, natL_zero, natL_one, natL_two, Nat.zero_mul, List.any_cons, List.any_nil, Bool.or_false, Bool.false_or, Bool.true_or, Bool.or_true, Bool.and_true, Bool.true_and, Bool.and_false, Bool.false_and, Bool.not_true, Bool.not_false, Nat.reduceBEq, Nat.reduceEqDiff, decide_true, decide_false, cond_true, cond_false, List.filter_nil, List.filter_cons, Nat.reduceAdd, Nat.reduceLeDiff, reduceCtorEq, List.length_nil, List.length_cons, Nat.mul_one, if_true, if_false, Bool.false_eq_true, eq_self, and_true, true_and, retL, resultsL, resAllL, resOfL, List.append_nil, List.nil_append, List.cons_append, true_or, or_true, false_or, or_false, false_and, and_false, not_true_eq_false, not_false_eq_true, ne_eq, unL, trim_nil, views_pures, LV.pures, LV.pure, freeze, Nat.reduceDiv, Int.reduceEq, Int.reduceLT, Int.reduceLE, Int.natCast_zero, LV.cells, allocL, List.getElem?_cons_zero, List.getElem?_cons_succ, storeL, spliceL, List.take_zero, List.take_succ_cons, List.drop_zero, List.drop_succ_cons, List.drop_nil, List.take_nil, Nat.le_refl, Nat.reduceMul, List.set_cons_zero, List.set_cons_succ, LV.scalar, List.all_cons, List.all_nil, Nat.lt_add_one, Nat.zero_lt_one, Nat.reduceLT, Nat.lt_irrefl, fillL, List.length_append, foldIntL, kind_beq, pures_int, solids_int, plains_int, unders_int, scalars_int, Nat.lt_irrefl, Int.lt_irrefl, hc, q3]
        · simp (maxSteps := 1000000) only [law12_PostCheap.B2.R0, beqT, beqF, exF_seq, exF_region, exF_block, exF_cond, exF_ret, exF_exit, exF_skip, runL, wantL, stepL, evL, evC, LEnv.at, putL, loadFine, loadL, cellsAt, Trk.putNew, Trk.up, Trk.touch, Trk.gives, Trk.calm, Trk.hit, opdsOf, Trk.fresh, LEnv.keep, LEnv.ofFrom, List.map_cons, List.map_nil, nbeq, nble, nblt, ofAV, ofAVs, lenL, bin_add, bin_sub, bin_mul, bin_eql, bin_neq, bin_lss, bin_leq, bin_gtr, bin_geq, natL_nat, natL_zero, natL_one, natL_two, Nat.zero_mul, List.any_cons, List.any_nil, Bool.or_false, Bool.false_or, Bool.true_or, Bool.or_true, Bool.and_true, Bool.true_and, Bool.and_false, Bool.false_and, Bool.not_true, Bool.not_false, Nat.reduceBEq, Nat.reduceEqDiff, decide_true, decide_false, cond_true, cond_false, List.filter_nil, List.filter_cons, Nat.reduceAdd, Nat.reduceLeDiff, reduceCtorEq, List.length_nil, List.length_cons, Nat.mul_one, if_true, if_false, Bool.false_eq_true, eq_self, and_true, true_and, retL, resultsL, resAllL, resOfL, List.append_nil, List.nil_append, List.cons_append, true_or, or_true, false_or, or_false, false_and, and_false, not_true_eq_false, not_false_eq_true, ne_eq, unL, trim_nil, views_pures, LV.pures, LV.pure, freeze, Nat.reduceDiv, Int.reduceEq, Int.reduceLT, Int.reduceLE, Int.natCast_zero, LV.cells, allocL, List.getElem?_cons_zero, List.getElem?_cons_succ, storeL, spliceL, List.take_zero, List.take_succ_cons, List.drop_zero, List.drop_succ_cons, List.drop_nil, List.take_nil, Nat.le_refl, Nat.reduceMul, List.set_cons_zero, List.set_cons_succ, LV.scalar, List.all_cons, List.all_nil, Nat.lt_add_one, Nat.zero_lt_one, Nat.reduceLT, Nat.lt_irrefl, fillL, List.length_append, foldIntL, kind_beq, pures_int, solids_int, plains_int, unders_int, scalars_int, Nat.lt_irrefl, Int.lt_irrefl, hc, q3]
      · simp (maxSteps := 1000000) only [law12_PostCheap.B2.R0, beqT, beqF, exF_seq, exF_region, exF_block, exF_cond, exF_ret, exF_exit, exF_skip, runL, wantL, stepL, evL, evC, LEnv.at, putL, loadFine, loadL, cellsAt, Trk.putNew, Trk.up, Trk.touch, Trk.gives, Trk.calm, Trk.hit, opdsOf, Trk.fresh, LEnv.keep, LEnv.ofFrom, List.map_cons, List.map_nil, nbeq, nble, nblt, ofAV, ofAVs, lenL, bin_add, bin_sub, bin_mul, bin_eql, bin_neq, bin_lss, bin_leq, bin_gtr, bin_geq, natL_nat, natL_zero, natL_one, natL_two, Nat.zero_mul, List.any_cons, List.any_nil, Bool.or_false, Bool.false_or, Bool.true_or, Bool.or_true, Bool.and_true, Bool.true_and, Bool.and_false, Bool.false_and, Bool.not_true, Bool.not_false, Nat.reduceBEq, Nat.reduceEqDiff, decide_true, decide_false, cond_true, cond_false, List.filter_nil, List.filter_cons, Nat.reduceAdd, Nat.reduceLeDiff, reduceCtorEq, List.length_nil, List.length_cons, Nat.mul_one, if_true, if_false, Bool.false_eq_true, eq_self, and_true, true_and, retL, resultsL, resAllL, resOfL, List.append_nil, List.nil_append, List.cons_append, true_or, or_true, false_or, or_false, false_and, and_false, not_true_eq_false, not_false_eq_true, ne_eq, unL, trim_nil, views_pures, LV.pures, LV.pure, freeze, Nat.reduceDiv, Int.reduceEq, Int.reduceLT, Int.reduceLE, Int.natCast_zero, LV.cells, allocL, List.getElem?_cons_zero, List.getElem?_cons_succ, storeL, spliceL, List.take_zero, List.take_succ_cons, List.drop_zero, List.drop_succ_cons, List.drop_nil, List.take_nil, Nat.le_refl, Nat.reduceMul, List.set_cons_zero, List.set_cons_succ, LV.scalar, List.all_cons, List.all_nil, Nat.lt_add_one, Nat.zero_lt_one, Nat.reduceLT, Nat.lt_irrefl, fillL, List.length_append, foldIntL, kind_beq, pures_int, solids_int, plains_int, unders_int, scalars_int, q1, q2, show ¬ ((sum : Int) < (least : Int)) by omega, show ¬ ((sum : Int) = (least : Int)) by omega]
def vO (E : LV) : Option (List Nat) → LV
  | none => E
  | some c => RV c
def lO (p : Nat → Nat) : Option (List Nat) → Nat
  | none => 0
  | some c => cost p c
theorem bets_eq (p : Nat → Nat) (l : List Nat) (b : Option (List Nat)) : (!b.isSome || (decide (cost p l < lO p b) || (decide (cost p l = lO p b) && decide (lexI (ci l) (ci (b.getD [])) < 0)))) = bets (betC p) l b := by
  cases b <;> rfl
theorem cheap_loop (f dd : Bool) {s : List Int} (K : OkS s) (N : Nat) (hN : N = 2 ^ s.length) (E V10 : LV) {pr : List Int} (hpl : pr.length = s.length) (hr : ∀ x ∈ pr, 1 ≤ x ∧ x ≤ 20) (m : LMem) (o : Bool) (hm : m[2]? = some ⟨ints pr, o⟩) (d : Nat) : ∀ (x : Nat) (b : Option (List Nat)), x + d = N → (∀ c, b = some c → c.length ≤ 10) →
    exF LP law12_PostCheap.L2 [(7, IL false f 1 s), (8, UD dd (handsV s)), (9, .sl 2 0 s.length s.length 1 1 s.length), (10, V10), (12, vO E b), (13, .bool b.isSome), (14, .int .i64 (lO (prC pr) b : Int)), (56, .int .u64 (N : Int)), (57, .int .u64 (x : Int))] m =
      some (.exit 2, [(7, IL false f 1 s), (9, .sl 2 0 s.length s.length 1 1 s.length), (10, V10), (12, vO E (pick (grdB s) (betC (prC pr)) ((List.range' x d).map memL) b))], m) := by
  have hN2 : N ≤ 1024 := by rw [hN]; exact pow_1024 K.le
  induction d with
  | zero =>
    intro x b hx _
    rw [law12_PostCheap.L2_eq]
    simp (maxSteps := 1000000) only [law12_PostCheap.B2, beqT, beqF, exF_seq, exF_region, exF_block, exF_cond, exF_ret, exF_exit, exF_skip, runL, wantL, stepL, evL, evC, LEnv.at, putL, loadFine, loadL, cellsAt, Trk.putNew, Trk.up, Trk.touch, Trk.gives, Trk.calm, Trk.hit, opdsOf, Trk.fresh, LEnv.keep, LEnv.ofFrom, List.map_cons, List.map_nil, nbeq, nble, nblt, ofAV, ofAVs, lenL, bin_add, bin_sub, bin_mul, bin_eql, bin_neq, bin_lss, bin_leq, bin_gtr, bin_geq, natL_nat, natL_zero, natL_one, natL_two, Nat.zero_mul, List.any_cons, List.any_nil, Bool.or_false, Bool.false_or, Bool.true_or, Bool.or_true, Bool.and_true, Bool.true_and, Bool.and_false, Bool.false_and, Bool.not_true, Bool.not_false, Nat.reduceBEq, Nat.reduceEqDiff, decide_true, decide_false, cond_true, cond_false, List.filter_nil, List.filter_cons, Nat.reduceAdd, Nat.reduceLeDiff, reduceCtorEq, List.length_nil, List.length_cons, Nat.mul_one, if_true, if_false, Bool.false_eq_true, eq_self, and_true, true_and, retL, resultsL, resAllL, resOfL, List.append_nil, List.nil_append, List.cons_append, true_or, or_true, false_or, or_false, false_and, and_false, not_true_eq_false, not_false_eq_true, ne_eq, unL, trim_nil, views_pures, LV.pures, LV.pure, freeze, Nat.reduceDiv, Int.reduceEq, Int.reduceLT, Int.reduceLE, Int.natCast_zero, LV.cells, allocL, List.getElem?_cons_zero, List.getElem?_cons_succ, storeL, spliceL, List.take_zero, List.take_succ_cons, List.drop_zero, List.drop_succ_cons, List.drop_nil, List.take_nil, Nat.le_refl, Nat.reduceMul, List.set_cons_zero, List.set_cons_succ, LV.scalar, List.all_cons, List.all_nil, Nat.lt_add_one, Nat.zero_lt_one, Nat.reduceLT, Nat.lt_irrefl, fillL, List.length_append, foldIntL, kind_beq, pures_int, solids_int, plains_int, unders_int, scalars_int, show ¬ ((x : Int) < (N : Int)) by omega, List.range'_zero, List.map_nil, pick]
  | succ d ih =>
    intro x b hx hb
    have hx2 : x < 1024 := by omega
    have hxs : x < 2 ^ s.length := by omega
    have h10 := memL_len x
    have hmem := fun m => memb_v hx2 m
    have hg := fun m => lguards_c dd K hxs m
    have hw := wrapU_succ (n := x) (by omega)
    have hlt : (x : Int) < (N : Int) := by omega
    have hco : b.isSome = true → ∀ m, clF LP n_slices_Compare_int_int [RV (memL x), vO E b] m = some (.P, .int .i64 (lexI (ci (memL x)) (ci (b.getD []))), m) := fun hs m => by
      cases b with
      | none => cases hs
      | some c => exact compare_v h10 (hb c rfl) m
    have l1 := RV_len (memL x)
    have hcl := cost_loop (IL false f 1 s) (UD dd (handsV s)) V10 (vO E b) (.bool b.isSome) (.int .i64 (lO (prC pr) b : Int)) (RV (memL x)) (.int .u64 (N : Int)) (.int .u64 (x : Int)) s.length hpl hr (memL x) (memL_lt hxs) h10 (decide (ci (memL x) = [])) (decide (ci (memL x) = [])) (bif decide (ci (memL x) = []) then 0 else 1) m o hm (memL x).length 0 0 (by omega) (by omega)
    rw [List.drop_zero, Nat.zero_add, Int.natCast_zero] at hcl
    have hcl : exF LP law12_PostCheap.L1 [(7, IL false f 1 s), (8, UD dd (handsV s)), (9, .sl 2 0 s.length s.length 1 1 s.length), (10, V10), (12, vO E b), (13, .bool b.isSome), (14, .int .i64 (lO (prC pr) b : Int)), (16, RV (memL x)), (17, .int .i64 0), (56, .int .u64 (N : Int)), (57, .int .u64 (x : Int)), (66, RV (memL x)), (67, .int .i64 ((memL x).length : Int)), (68, .int .i64 0)] m = _ := hcl
    have r0 := cheap_r0 (IL false f 1 s) (UD dd (handsV s)) (.sl 2 0 s.length s.length 1 1 s.length) V10 (vO E b) (RV (memL x)) (.int .u64 (N : Int)) (.int .u64 (x : Int)) b.isSome (cost (prC pr) (memL x)) (lO (prC pr) b) _ m hco
    rw [bets_eq] at r0
    have ih := ih (x + 1) (if grdB s (memL x) && bets (betC (prC pr)) (memL x) b then some (memL x) else b) (by omega) (fun c hc => by
      split at hc
      · cases hc; exact h10
      · exact hb c hc)
    rw [law12_PostCheap.L2_eq, List.range'_succ, List.map_cons, pick]
    generalize (memL x).length = ln at *
    cases hgr : grdB s (memL x)
    · rw [hgr] at hg ih
      simp only [Bool.false_and, if_false, Bool.false_eq_true] at ih ⊢
      generalize UD dd (handsV s) = H at *
      generalize IL false f 1 s = S at *
      simp (maxSteps := 1000000) only [law12_PostCheap.B2, beqT, beqF, exF_seq, exF_region, exF_block, exF_cond, exF_ret, exF_exit, exF_skip, runL, wantL, stepL, evL, evC, LEnv.at, putL, loadFine, loadL, cellsAt, Trk.putNew, Trk.up, Trk.touch, Trk.gives, Trk.calm, Trk.hit, opdsOf, Trk.fresh, LEnv.keep, LEnv.ofFrom, List.map_cons, List.map_nil, nbeq, nble, nblt, ofAV, ofAVs, lenL, bin_add, bin_sub, bin_mul, bin_eql, bin_neq, bin_lss, bin_leq, bin_gtr, bin_geq, natL_nat, natL_zero, natL_one, natL_two, Nat.zero_mul, List.any_cons, List.any_nil, Bool.or_false, Bool.false_or, Bool.true_or, Bool.or_true, Bool.and_true, Bool.true_and, Bool.and_false, Bool.false_and, Bool.not_true, Bool.not_false, Nat.reduceBEq, Nat.reduceEqDiff, decide_true, decide_false, cond_true, cond_false, List.filter_nil, List.filter_cons, Nat.reduceAdd, Nat.reduceLeDiff, reduceCtorEq, List.length_nil, List.length_cons, Nat.mul_one, if_true, if_false, Bool.false_eq_true, eq_self, and_true, true_and, retL, resultsL, resAllL, resOfL, List.append_nil, List.nil_append, List.cons_append, true_or, or_true, false_or, or_false, false_and, and_false, not_true_eq_false, not_false_eq_true, ne_eq, unL, trim_nil, views_pures, LV.pures, LV.pure, freeze, Nat.reduceDiv, Int.reduceEq, Int.reduceLT, Int.reduceLE, Int.natCast_zero, LV.cells, allocL, List.getElem?_cons_zero, List.getElem?_cons_succ, storeL, spliceL, List.take_zero, List.take_succ_cons, List.drop_zero, List.drop_succ_cons, List.drop_nil, List.take_nil, Nat.le_refl, Nat.reduceMul, List.set_cons_zero, List.set_cons_succ, LV.scalar, List.all_cons, List.all_nil, Nat.lt_add_one, Nat.zero_lt_one, Nat.reduceLT, Nat.lt_irrefl, fillL, List.length_append, foldIntL, kind_beq, pures_int, solids_int, plains_int, unders_int, scalars_int, hlt, hg, hw]
      exact ih
    · rw [hgr] at hg ih
      cases hbe : bets (betC (prC pr)) (memL x) b
      · rw [hbe] at r0 ih
        simp only [Bool.and_false, if_false, Bool.false_eq_true] at ih ⊢
        generalize UD dd (handsV s) = H at *
        generalize IL false f 1 s = S at *
        simp (maxSteps := 1000000) only [law12_PostCheap.B2, beqT, beqF, exF_seq, exF_region, exF_block, exF_cond, exF_ret, exF_exit, exF_skip, runL, wantL, stepL, evL, evC, LEnv.at, putL, loadFine, loadL, cellsAt, Trk.putNew, Trk.up, Trk.touch, Trk.gives, Trk.calm, Trk.hit, opdsOf, Trk.fresh, LEnv.keep, LEnv.ofFrom, List.map_cons, List.map_nil, nbeq, nble, nblt, ofAV, ofAVs, bin_add, bin_sub, bin_mul, bin_eql, bin_neq, bin_lss, bin_leq, bin_gtr, bin_geq, natL_nat, natL_zero, natL_one, natL_two, Nat.zero_mul, List.any_cons, List.any_nil, Bool.or_false, Bool.false_or, Bool.true_or, Bool.or_true, Bool.and_true, Bool.true_and, Bool.and_false, Bool.false_and, Bool.not_true, Bool.not_false, Nat.reduceBEq, Nat.reduceEqDiff, decide_true, decide_false, cond_true, cond_false, List.filter_nil, List.filter_cons, Nat.reduceAdd, Nat.reduceLeDiff, reduceCtorEq, List.length_nil, List.length_cons, Nat.mul_one, if_true, if_false, Bool.false_eq_true, eq_self, and_true, true_and, retL, resultsL, resAllL, resOfL, List.append_nil, List.nil_append, List.cons_append, true_or, or_true, false_or, or_false, false_and, and_false, not_true_eq_false, not_false_eq_true, ne_eq, unL, trim_nil, views_pures, LV.pures, LV.pure, freeze, Nat.reduceDiv, Int.reduceEq, Int.reduceLT, Int.reduceLE, Int.natCast_zero, LV.cells, allocL, List.getElem?_cons_zero, List.getElem?_cons_succ, storeL, spliceL, List.take_zero, List.take_succ_cons, List.drop_zero, List.drop_succ_cons, List.drop_nil, List.take_nil, Nat.le_refl, Nat.reduceMul, List.set_cons_zero, List.set_cons_succ, LV.scalar, List.all_cons, List.all_nil, Nat.lt_add_one, Nat.zero_lt_one, Nat.reduceLT, Nat.lt_irrefl, fillL, List.length_append, foldIntL, kind_beq, pures_int, solids_int, plains_int, unders_int, scalars_int, hlt, hg, hw, hmem, l1, hcl, r0]
        exact ih
      · rw [hbe] at r0 ih
        simp only [Bool.and_true, if_true] at ih ⊢
        generalize UD dd (handsV s) = H at *
        generalize IL false f 1 s = S at *
        simp (maxSteps := 1000000) only [law12_PostCheap.B2, beqT, beqF, exF_seq, exF_region, exF_block, exF_cond, exF_ret, exF_exit, exF_skip, runL, wantL, stepL, evL, evC, LEnv.at, putL, loadFine, loadL, cellsAt, Trk.putNew, Trk.up, Trk.touch, Trk.gives, Trk.calm, Trk.hit, opdsOf, Trk.fresh, LEnv.keep, LEnv.ofFrom, List.map_cons, List.map_nil, nbeq, nble, nblt, ofAV, ofAVs, bin_add, bin_sub, bin_mul, bin_eql, bin_neq, bin_lss, bin_leq, bin_gtr, bin_geq, natL_nat, natL_zero, natL_one, natL_two, Nat.zero_mul, List.any_cons, List.any_nil, Bool.or_false, Bool.false_or, Bool.true_or, Bool.or_true, Bool.and_true, Bool.true_and, Bool.and_false, Bool.false_and, Bool.not_true, Bool.not_false, Nat.reduceBEq, Nat.reduceEqDiff, decide_true, decide_false, cond_true, cond_false, List.filter_nil, List.filter_cons, Nat.reduceAdd, Nat.reduceLeDiff, reduceCtorEq, List.length_nil, List.length_cons, Nat.mul_one, if_true, if_false, Bool.false_eq_true, eq_self, and_true, true_and, retL, resultsL, resAllL, resOfL, List.append_nil, List.nil_append, List.cons_append, true_or, or_true, false_or, or_false, false_and, and_false, not_true_eq_false, not_false_eq_true, ne_eq, unL, trim_nil, views_pures, LV.pures, LV.pure, freeze, Nat.reduceDiv, Int.reduceEq, Int.reduceLT, Int.reduceLE, Int.natCast_zero, LV.cells, allocL, List.getElem?_cons_zero, List.getElem?_cons_succ, storeL, spliceL, List.take_zero, List.take_succ_cons, List.drop_zero, List.drop_succ_cons, List.drop_nil, List.take_nil, Nat.le_refl, Nat.reduceMul, List.set_cons_zero, List.set_cons_succ, LV.scalar, List.all_cons, List.all_nil, Nat.lt_add_one, Nat.zero_lt_one, Nat.reduceLT, Nat.lt_irrefl, fillL, List.length_append, foldIntL, kind_beq, pures_int, solids_int, plains_int, unders_int, scalars_int, hlt, hg, hw, hmem, l1, hcl, r0]
        exact ih
section
variable (w11 w10 : List LV) (p e : List Int) {s : List Int} (K : OkS s) (b : Bool)
include K
theorem cheapE_ok {pr : List Int} (hp : pr.length = s.length) (hr : ∀ x ∈ pr, 1 ≤ x ∧ x ≤ 20) : cheapE s pr = 0 := by
  unfold cheapE
  rw [K.chk, if_neg (by simp), if_neg (by omega), (range_any pr).2 hr]
  rfl
theorem cheapP_m (hp : p.length = s.length) (hr : ∀ x ∈ p, 1 ≤ x ∧ x ≤ 20) (o1 o2 : Bool) : ∃ o', clF LP n_post_Cheapest [IL false b 1 s, .sl 2 0 s.length s.length 1 1 s.length] (QP w11 w10 p e o1 o2) = some (.P, .tup [RV (firstS s (prC p)), .int .i64 0], QP w11 w10 p e o' o2) := by
  have hv := views_snd 32 (QP w11 w10 p e o1 o2) (IL false b 1 s) _ _ _ (view_at (m := QP w11 w10 p e o1 o2) (b := 2) hp rfl) (by simp [LV.pure]) (by simp [LV.pures, LV.pure])
  have hc := cheapP_c false b false false 1 s p (by have := K.le; omega) (by have := K.le; omega) []
  rw [cheapV, cheapE_ok K hp hr, if_pos rfl] at hc
  rcases call_sh lp_post_Cheapest rfl hv (by simp [LV.pures, LV.pure]) hc with h | h
  · exact ⟨o1, h⟩
  · exact ⟨false, h⟩
theorem cheapE_m (hp : e.length = s.length) (hr : ∀ x ∈ e, 1 ≤ x ∧ x ≤ 20) (o1 o2 : Bool) : ∃ o', clF LP n_post_Cheapest [IL false b 1 s, .sl 3 0 s.length s.length 1 1 s.length] (QP w11 w10 p e o1 o2) = some (.P, .tup [RV (firstS s (prC e)), .int .i64 0], QP w11 w10 p e o1 o') := by
  have hv := views_snd 32 (QP w11 w10 p e o1 o2) (IL false b 1 s) _ _ _ (view_at (m := QP w11 w10 p e o1 o2) (b := 3) hp rfl) (by simp [LV.pure]) (by simp [LV.pures, LV.pure])
  have hc := cheapP_c false b false false 1 s e (by have := K.le; omega) (by have := K.le; omega) []
  rw [cheapV, cheapE_ok K hp hr, if_pos rfl] at hc
  rcases call_sh lp_post_Cheapest rfl hv (by simp [LV.pures, LV.pure]) hc with h | h
  · exact ⟨o2, h⟩
  · exact ⟨false, h⟩
theorem cheap_r2 (pr : Nat → Nat) (m : LMem) : exF LP law12_PostCheap.B.R2 [(12, RV (firstS s pr)), (20, RV (firstS s pr)), (21, .int .i64 0), (22, RV (firstS s (fun _ => 1))), (23, .int .i64 0), (24, RV (firstS s (fun _ => 1))), (25, .int .i64 0)] m = some (.normal, [(6, .bool true)], m) := by
  have s1 := fun m => same_v (firstS_len K pr) m
  have s2 := fun m => same_v (firstS_len K (fun _ => 1)) m
  generalize RV (firstS s pr) = A at *
  generalize RV (firstS s (fun _ => 1)) = B at *
  simp (maxSteps := 1000000) only [law12_PostCheap.B.R2, beqT, beqF, exF_seq, exF_region, exF_block, exF_cond, exF_ret, exF_exit, exF_skip, runL, wantL, stepL, evL, evC, LEnv.at, putL, loadFine, loadL, cellsAt, Trk.putNew, Trk.up, Trk.touch, Trk.gives, Trk.calm, Trk.hit, opdsOf, Trk.fresh, LEnv.keep, LEnv.ofFrom, List.map_cons, List.map_nil, nbeq, nble, nblt, ofAV, ofAVs, lenL, bin_add, bin_sub, bin_mul, bin_eql, bin_neq, bin_lss, bin_leq, bin_gtr, bin_geq, natL_nat, natL_zero, natL_one, natL_two, Nat.zero_mul, List.any_cons, List.any_nil, Bool.or_false, Bool.false_or, Bool.true_or, Bool.or_true, Bool.and_true, Bool.true_and, Bool.and_false, Bool.false_and, Bool.not_true, Bool.not_false, Nat.reduceBEq, Nat.reduceEqDiff, decide_true, decide_false, cond_true, cond_false, List.filter_nil, List.filter_cons, Nat.reduceAdd, Nat.reduceLeDiff, reduceCtorEq, List.length_nil, List.length_cons, Nat.mul_one, if_true, if_false, Bool.false_eq_true, eq_self, and_true, true_and, retL, resultsL, resAllL, resOfL, List.append_nil, List.nil_append, List.cons_append, true_or, or_true, false_or, or_false, false_and, and_false, not_true_eq_false, not_false_eq_true, ne_eq, unL, trim_nil, views_pures, LV.pures, LV.pure, freeze, Nat.reduceDiv, Int.reduceEq, Int.reduceLT, Int.reduceLE, Int.natCast_zero, LV.cells, allocL, List.getElem?_cons_zero, List.getElem?_cons_succ, storeL, spliceL, List.take_zero, List.take_succ_cons, List.drop_zero, List.drop_succ_cons, List.drop_nil, List.take_nil, Nat.le_refl, Nat.reduceMul, List.set_cons_zero, List.set_cons_succ, LV.scalar, List.all_cons, List.all_nil, Nat.lt_add_one, Nat.zero_lt_one, Nat.reduceLT, Nat.lt_irrefl, fillL, List.length_append, foldIntL, kind_beq, pures_int, solids_int, plains_int, unders_int, scalars_int, s1, s2, works_c]
end
theorem cheap_in (ns : List Int) (hl : ns.length = 11) (hb : ∀ n ∈ ns, 0 ≤ n ∧ n < 256) (os : List Int) (hol : os.length = 10) (hob : ∀ n ∈ os, 0 ≤ n ∧ n < 256) (one : Int) (hone : 0 ≤ one ∧ one < 256) :
    clF LP n_law12_PostCheap [.agg (ns.map (LV.int .u8)), .agg (os.map (LV.int .u8)), .int .u8 one] [] = some (.P, .bool true, []) := by
  obtain ⟨l, rfl, hlb⟩ := bytes_nat ns hb
  obtain ⟨cs, rfl, hcb⟩ := bytes_nat os hob
  obtain ⟨q, rfl⟩ := Int.eq_ofNat_of_zero_le hone.1
  have hq : q < 256 := by omega
  rw [ci_ln] at hl hol
  obtain ⟨p, bs, rfl⟩ : ∃ p bs, l = p :: bs := by
    cases l with
    | nil => simp at hl
    | cons p bs => exact ⟨p, bs, rfl⟩
  have hb10 : bs.length = 10 := by simpa using hl
  show clF LP n_law12_PostCheap [.agg (bys (p :: bs)), .agg (bys cs), .int .u8 (q : Int)] [] = some (.P, .bool true, [])
  obtain ⟨f1, f2, hm⟩ := made_c p (hlb p (by simp)) 9 (by omega) (by omega) bs hb10 (fun x hx => hlb x (by simp [hx]))
  have hk : p % 9 < 9 := Nat.mod_lt _ (by omega)
  obtain ⟨K, hsl⟩ := shoreN_ok (1 + p % 9) (by omega) (by omega) bs
  rw [hand_eq (1 + p % 9) (by omega) (by omega) bs] at hm
  have hm : ∀ m, clF LP n_law12_Coast_made [.agg (bys (p :: bs)), .int .i64 9] m = some (.P, .tup [IL false f1 1 (shoreN (1 + p % 9) bs), UD f2 (handsV (shoreN (1 + p % 9) bs))], m) := fun m => by
    have := hm m
    rw [show UD f2 (handsV (shoreN (1 + p % 9) bs)) = .lst false f2 1 (1 + p % 9) (nats (handsV (shoreN (1 + p % 9) bs))) by rw [UD, handsV_length, hsl]]
    exact this
  have hbl : (bys (p :: bs)).length = 11 := by simp [hb10]
  have hps : LV.pures (bys (p :: bs)) = true := pures_int _ _
  have hps2 : LV.pures (bys cs) = true := pures_int _ _
  have htk : (bys (p :: bs)).take 11 = bys (p :: bs) := List.take_of_length_le (by omega)
  have hcl : (bys cs).length = 10 := by simp [hol]
  generalize bys (p :: bs) = w at *
  generalize shoreN (1 + p % 9) bs = s at *
  have h1n := K.pos
  have hn10 := K.le
  have hpure : LV.pures [LV.agg w, LV.agg (bys cs), .int .u8 (q : Int)] = true := by simp only [LV.pures, LV.pure, hps, hps2, Bool.and_true]
  have hpa := prices_all cs hol hcb q hq (IL false f1 1 s) (UD f2 (handsV s)) w s.length (by omega) K.le
  have hpl := prL_len s.length cs
  have hel := eqL_len s.length q
  have hpr := prL_range s.length cs
  have her := eqL_range s.length q
  have hlo := fun E => cheap_loop f1 f2 K _ rfl E (.sl 3 0 s.length s.length 1 1 s.length) hpl hpr (QP w (bys cs) (prL s.length cs) (eqL s.length q) true true) true rfl (2 ^ s.length) 0 none (by omega) (fun c hc => by cases hc)
  rw [cheap_pick K] at hlo
  simp only [vO, lO, Option.isSome_none, Int.natCast_zero] at hlo
  obtain ⟨o1, c1⟩ := cheapP_m w (bys cs) (prL s.length cs) (eqL s.length q) K f1 hpl hpr true true
  obtain ⟨o2, c2⟩ := cheapE_m w (bys cs) (prL s.length cs) (eqL s.length q) K f1 hel her o1 true
  rw [first_equal s (prC (eqL s.length q)) (1 + q % 20) (by omega) (fun i hi => eqL_at _ _ _ hi)] at c2
  have c3 := few_v f1 K (QP w (bys cs) (prL s.length cs) (eqL s.length q) o1 o2)
  have r2 := cheap_r2 K (prC (prL s.length cs)) (QP w (bys cs) (prL s.length cs) (eqL s.length q) o1 o2)
  refine call_P lp_law12_PostCheap rfl hpure (m1 := QP w (bys cs) (prL s.length cs) (eqL s.length q) o1 o2) ?_ rfl []
  have hsh : binL .shl (.int .u64 1) (.int .i64 (s.length : Int)) = some (.int .u64 ((2 ^ s.length : Nat) : Int)) := bits_shl (by omega)
  have l0 : ∀ s, lenL (IL false f1 1 s) = some s.length := fun _ => rfl
  generalize QP w (bys cs) (prL s.length cs) (eqL s.length q) true true = M1 at *
  generalize QP w (bys cs) (prL s.length cs) (eqL s.length q) o1 true = M2 at *
  generalize QP w (bys cs) (prL s.length cs) (eqL s.length q) o1 o2 = M3 at *
  generalize bys cs = w2 at *
  generalize 2 ^ s.length = N at *
  generalize UD f2 (handsV s) = H at *
  generalize RV (firstS s (prC (prL s.length cs))) = R1 at *
  generalize RV (firstS s (fun _ => 1)) = R2 at *
  generalize hS : IL false f1 1 s = S at *
  have l0 := l0 s
  rw [hS] at l0
  have hv0 : ∀ m, views m [] = some ([], []) := fun m => views_pures m [] rfl
  simp (maxSteps := 1000000) only [law12_PostCheap, law12_PostCheap.B, law12_PostCheap.B.R0, law12_PostCheap.B.R1, hv0, freeze_nil, beqT, beqF, exF_seq, exF_region, exF_block, exF_cond, exF_ret, exF_exit, exF_skip, runL, wantL, stepL, evL, evC, LEnv.at, putL, loadFine, loadL, cellsAt, Trk.putNew, Trk.up, Trk.touch, Trk.gives, Trk.calm, Trk.hit, opdsOf, Trk.fresh, LEnv.keep, LEnv.ofFrom, List.map_cons, List.map_nil, nbeq, nble, nblt, ofAV, ofAVs, bin_add, bin_sub, bin_mul, bin_eql, bin_neq, bin_lss, bin_leq, bin_gtr, bin_geq, natL_nat, natL_zero, natL_one, natL_two, Nat.zero_mul, List.any_cons, List.any_nil, Bool.or_false, Bool.false_or, Bool.true_or, Bool.or_true, Bool.and_true, Bool.true_and, Bool.and_false, Bool.false_and, Bool.not_true, Bool.not_false, Nat.reduceBEq, Nat.reduceEqDiff, decide_true, decide_false, cond_true, cond_false, List.filter_nil, List.filter_cons, Nat.reduceAdd, Nat.reduceLeDiff, reduceCtorEq, List.length_nil, List.length_cons, Nat.mul_one, if_true, if_false, Bool.false_eq_true, eq_self, and_true, true_and, retL, resultsL, resAllL, resOfL, List.append_nil, List.nil_append, List.cons_append, true_or, or_true, false_or, or_false, false_and, and_false, not_true_eq_false, not_false_eq_true, ne_eq, unL, trim_nil, views_pures, LV.pures, LV.pure, freeze, Nat.reduceDiv, Int.reduceEq, Int.reduceLT, Int.reduceLE, Int.natCast_zero, LV.cells, allocL, List.getElem?_cons_zero, List.getElem?_cons_succ, storeL, spliceL, List.take_zero, List.take_succ_cons, List.drop_zero, List.drop_succ_cons, List.drop_nil, List.take_nil, Nat.le_refl, Nat.reduceMul, List.set_cons_zero, List.set_cons_succ, LV.scalar, List.all_cons, List.all_nil, Nat.lt_add_one, Nat.zero_lt_one, Nat.reduceLT, Nat.lt_irrefl, fillL, List.length_append, foldIntL, kind_beq, pures_int, solids_int, plains_int, unders_int, scalars_int, hbl, htk, hcl, hm, l0, hpa, hsh, hlo, c1, c2, c3, r2]
end Go.Am.Post

