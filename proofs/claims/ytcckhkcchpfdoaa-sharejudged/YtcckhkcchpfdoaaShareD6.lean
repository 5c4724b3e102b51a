import Derived.Test.YtcckhkcchpfdoaaShareD4
import Derived.Test.YtcckhkcchpfdoaaLm10
import Derived.Test.YtcckhkcchpfdoaaAm17
import Derived.Below
import Derived.ChangeSlices
import Derived.Deep.Matrix
import Derived.OpenShut
import Derived.Carry
/-
  What functions of chapter 07 compute, outright 6: the law 'ShareJudged', joined.
-/
set_option linter.unusedVariables false
set_option linter.unusedSimpArgs false
set_option maxRecDepth 10000
set_option maxHeartbeats 400000
namespace Go.Am.Share
open Go.Am.G

section
variable (b0 c0 : Bool) (z0 : Nat) {rs : List Row} {o : List Int} (D : LOk rs o) (hd : divE (vals rs) o = 0)
include D hd
theorem judgedL2 (vl : LV) (d : Nat) : ∀ (i : Nat) (m : LMem) (vw : LV) (W : List (Nat × Nat)), i + d = rs.length → Hold m vl o → Lst m vw 2 W.length (pcs W) → (∀ b, isBlk vl b → ¬ isBlk vw b) → W.length + 4 * d ≤ 50 →
    ∃ m' vw', exF LP law07_ShareJudged.L2 [(5, VL b0 c0 z0 rs), (6, vl), (17, vw), (111, .int .i64 (rs.length : Int)), (112, .int .i64 (i : Int))] m =
      some (.exit 2, [(5, VL b0 c0 z0 rs), (6, vl), (17, vw')], m') ∧ Hold m' vl o ∧ Lst m' vw' 2 (W ++ outer (fun i j => decide (0 < eW (vals rs) o i j)) rs.length i d).length (pcs (W ++ outer (fun i j => decide (0 < eW (vals rs) o i j)) rs.length i d)) ∧ (∀ b, isBlk vl b → ¬ isBlk vw' b) := by
  have h4 := D.le4
  induction d with
  | zero =>
    intro i m vw W hi H L hdis _
    refine ⟨m, vw, ?_, H, ?_, hdis⟩
    · rw [law07_ShareJudged.L2_eq]
      simp only [law07_ShareJudged.B2, beqT, beqF, exF_seq, exF_region, exF_block, exF_cond, exF_ret, exF_exit, exF_skip, runL, wantL, stepL, evL, evC, LEnv.at, putL, loadFine, loadL, cellsAt, Trk.putNew, Trk.up, Trk.touch, Trk.gives, Trk.calm, Trk.hit, opdsOf, Trk.fresh, LEnv.keep, LEnv.ofFrom, List.map_cons, List.map_nil, nbeq, nble, nblt, ofAV, ofAVs, lenL, bin_add, bin_sub, bin_mul, bin_eql, bin_neq, bin_lss, bin_leq, bin_gtr, bin_geq, natL_nat, natL_zero, natL_one, natL_two, Nat.zero_mul, List.any_cons, List.any_nil, Bool.or_false, Bool.false_or, Bool.true_or, Bool.or_true, Bool.and_true, Bool.true_and, Bool.and_false, Bool.false_and, Bool.not_true, Bool.not_false, Nat.reduceBEq, Nat.reduceEqDiff, decide_true, decide_false, cond_true, cond_false, List.filter_nil, List.filter_cons, Nat.reduceAdd, Nat.reduceLeDiff, reduceCtorEq, List.length_nil, List.length_cons, Nat.mul_one, if_true, if_false, Bool.false_eq_true, eq_self, and_true, true_and, retL, resultsL, resAllL, resOfL, List.append_nil, List.nil_append, List.cons_append, true_or, or_true, false_or, or_false, false_and, and_false, not_true_eq_false, not_false_eq_true, ne_eq, unL, trim_nil, views_pures, LV.pures, LV.pure, freeze, Nat.reduceDiv, Int.reduceEq, Int.reduceLT, Int.reduceLE, Int.natCast_zero, LV.cells, allocL, List.getElem?_cons_zero, List.getElem?_cons_succ, storeL, spliceL, List.take_zero, List.take_succ_cons, List.drop_zero, List.drop_succ_cons, List.drop_nil, List.take_nil, Nat.le_refl, Nat.reduceMul, List.set_cons_zero, List.set_cons_succ, LV.scalar, List.all_cons, List.all_nil, Nat.lt_add_one, Nat.zero_lt_one, Nat.reduceLT, Nat.lt_irrefl, fillL, List.length_append, foldIntL, kind_beq, pures_int, solids_int, plains_int, unders_int, scalars_int, show ¬ ((i : Int) < (rs.length : Int)) by omega]
    · simpa [outer] using L
  | succ d ih =>
    intro i m vw W hi H L hdis hb
    have hir : i < rs.length := by omega
    have hws := wrap_succ (show i + 1 < 9223372036854775808 by omega)
    obtain ⟨m1, vw1, e1, H1, L1, d1⟩ := judgedL1 b0 c0 z0 D hd vl hir rs.length 0 m vw W (by omega) H L hdis (by omega)
    have hlen : (inner (fun i j => decide (0 < eW (vals rs) o i j)) i 0 rs.length).length ≤ 4 := by
      unfold inner
      rw [List.length_map]
      refine Nat.le_trans (List.length_filter_le _ _) ?_
      simp; omega
    obtain ⟨m', vw', e, H', L', d'⟩ := ih (i + 1) m1 vw1 _ (by omega) H1 L1 d1 (by rw [List.length_append]; omega)
    rw [outer_succ, ← List.append_assoc]
    refine ⟨m', vw', ?_, H', L', d'⟩
    rw [law07_ShareJudged.L2_eq, ← e]
    simp only [Int.natCast_zero] at e1
    have l0 : lenL (VL b0 c0 z0 rs) = some rs.length := rfl
    generalize VL b0 c0 z0 rs = VV at *
    simp (maxSteps := 1000000) only [law07_ShareJudged.B2, beqT, beqF, exF_seq, exF_region, exF_block, exF_cond, exF_ret, exF_exit, exF_skip, runL, wantL, stepL, evL, evC, LEnv.at, putL, loadFine, loadL, cellsAt, Trk.putNew, Trk.up, Trk.touch, Trk.gives, Trk.calm, Trk.hit, opdsOf, Trk.fresh, LEnv.keep, LEnv.ofFrom, List.map_cons, List.map_nil, nbeq, nble, nblt, ofAV, ofAVs, bin_add, bin_sub, bin_mul, bin_eql, bin_neq, bin_lss, bin_leq, bin_gtr, bin_geq, natL_nat, natL_zero, natL_one, natL_two, Nat.zero_mul, List.any_cons, List.any_nil, Bool.or_false, Bool.false_or, Bool.true_or, Bool.or_true, Bool.and_true, Bool.true_and, Bool.and_false, Bool.false_and, Bool.not_true, Bool.not_false, Nat.reduceBEq, Nat.reduceEqDiff, decide_true, decide_false, cond_true, cond_false, List.filter_nil, List.filter_cons, Nat.reduceAdd, Nat.reduceLeDiff, reduceCtorEq, List.length_nil, List.length_cons, Nat.mul_one, if_true, if_false, Bool.false_eq_true, eq_self, and_true, true_and, retL, resultsL, resAllL, resOfL, List.append_nil, List.nil_append, List.cons_append, true_or, or_true, false_or, or_false, false_and, and_false, not_true_eq_false, not_false_eq_true, ne_eq, unL, trim_nil, views_pures, LV.pures, LV.pure, freeze, Nat.reduceDiv, Int.reduceEq, Int.reduceLT, Int.reduceLE, Int.natCast_zero, LV.cells, allocL, List.getElem?_cons_zero, List.getElem?_cons_succ, storeL, spliceL, List.take_zero, List.take_succ_cons, List.drop_zero, List.drop_succ_cons, List.drop_nil, List.take_nil, Nat.le_refl, Nat.reduceMul, List.set_cons_zero, List.set_cons_succ, LV.scalar, List.all_cons, List.all_nil, Nat.lt_add_one, Nat.zero_lt_one, Nat.reduceLT, Nat.lt_irrefl, fillL, List.length_append, foldIntL, kind_beq, pures_int, solids_int, plains_int, unders_int, scalars_int, l0, show ((i : Int) < (rs.length : Int)) by omega, e1, hws]
end
theorem judgedL0 (cs : List Nat) (hc6 : cs.length = 6) (hcb : ∀ x ∈ cs, x < 256) (w0 : LBlk) (b0 c0 : Bool) (z0 : Nat) (rs : List Row) (h1 : 0 < rs.length) (h4 : rs.length ≤ 4) (n : Nat) (hn : n ≤ 6) (d : Nat) : ∀ k, k + d = n →
    exF LP law07_ShareJudged.L0 [(3, .ptr 1 0 6), (5, VL b0 c0 z0 rs), (6, GV 2 (owL cs rs.length k)), (29, .int .i64 (n : Int)), (30, .int .i64 (k : Int))] ([w0, ⟨bys cs, true⟩] ++ GM (owL cs rs.length k)) =
      some (.exit 0, [(5, VL b0 c0 z0 rs), (6, GV 2 (owL cs rs.length n))], [w0, ⟨bys cs, true⟩] ++ GM (owL cs rs.length n)) := by
  induction d with
  | zero =>
    intro k hk
    obtain rfl : k = n := by omega
    rw [law07_ShareJudged.L0_eq]
    simp only [law07_ShareJudged.B0, beqT, beqF, exF_seq, exF_region, exF_block, exF_cond, exF_ret, exF_exit, exF_skip, runL, wantL, stepL, evL, evC, LEnv.at, putL, loadFine, loadL, cellsAt, Trk.putNew, Trk.up, Trk.touch, Trk.gives, Trk.calm, Trk.hit, opdsOf, Trk.fresh, LEnv.keep, LEnv.ofFrom, List.map_cons, List.map_nil, nbeq, nble, nblt, ofAV, ofAVs, lenL, bin_add, bin_sub, bin_mul, bin_eql, bin_neq, bin_lss, bin_leq, bin_gtr, bin_geq, natL_nat, natL_zero, natL_one, natL_two, Nat.zero_mul, List.any_cons, List.any_nil, Bool.or_false, Bool.false_or, Bool.true_or, Bool.or_true, Bool.and_true, Bool.true_and, Bool.and_false, Bool.false_and, Bool.not_true, Bool.not_false, Nat.reduceBEq, Nat.reduceEqDiff, decide_true, decide_false, cond_true, cond_false, List.filter_nil, List.filter_cons, Nat.reduceAdd, Nat.reduceLeDiff, reduceCtorEq, List.length_nil, List.length_cons, Nat.mul_one, if_true, if_false, Bool.false_eq_true, eq_self, and_true, true_and, retL, resultsL, resAllL, resOfL, List.append_nil, List.nil_append, List.cons_append, true_or, or_true, false_or, or_false, false_and, and_false, not_true_eq_false, not_false_eq_true, ne_eq, unL, trim_nil, views_pures, LV.pures, LV.pure, freeze, Nat.reduceDiv, Int.reduceEq, Int.reduceLT, Int.reduceLE, Int.natCast_zero, LV.cells, allocL, List.getElem?_cons_zero, List.getElem?_cons_succ, storeL, spliceL, List.take_zero, List.take_succ_cons, List.drop_zero, List.drop_succ_cons, List.drop_nil, List.take_nil, Nat.le_refl, Nat.reduceMul, List.set_cons_zero, List.set_cons_succ, LV.scalar, List.all_cons, List.all_nil, Nat.lt_add_one, Nat.zero_lt_one, Nat.reduceLT, Nat.lt_irrefl, fillL, List.length_append, foldIntL, kind_beq, pures_int, solids_int, plains_int, unders_int, scalars_int, Int.lt_irrefl]
  | succ d ih =>
    intro k hk
    have ih := ih (k + 1) (by omega)
    have hk6 : k < cs.length := by omega
    have hk6' : k < 6 := by omega
    have hbl : (bys cs).length = 6 := by simp [hc6]
    have hat := bys_at hk6
    have hx := getD_lt hcb k
    have hwr : IntKind.i64.wrap ((cs.getD k 0 : Nat) : Int) = ((cs.getD k 0 : Nat) : Int) := wrap_in (by omega)
    have hrm := rem_nat (cs.getD k 0) rs.length (by omega)
    have ha := append_grow [w0, ⟨bys cs, true⟩] (owL cs rs.length k) ((cs.getD k 0 % rs.length : Nat) : Int) true (by rw [owL_len]; omega)
    rw [← owL_succ] at ha
    have hl2 : ([w0, ⟨bys cs, true⟩] : LMem).length = 2 := rfl
    rw [hl2] at ha
    have hvx : ∀ (x : Int) m, views m [.int .i64 x] = some ([.int .i64 x], []) := fun x m => views_pures m _ (by simp [LV.pures, LV.pure])
    have hws := wrap_succ (show k + 1 < 9223372036854775808 by omega)
    have hm1 : ([w0, ⟨bys cs, true⟩] ++ GM (owL cs rs.length k))[1]? = some ⟨bys cs, true⟩ := rfl
    have l0 : lenL (VL b0 c0 z0 rs) = some rs.length := rfl
    have hci : ∀ n : Int, (LV.int .i64 n).cells = some [.int .i64 n] := fun _ => rfl
    generalize cs.getD k 0 % rs.length = y at *
    generalize cs.getD k 0 = x at *
    generalize [w0, ⟨bys cs, true⟩] ++ GM (owL cs rs.length k) = M0 at *
    generalize [w0, ⟨bys cs, true⟩] ++ GM (owL cs rs.length (k + 1)) = M2 at *
    generalize GV 2 (owL cs rs.length k) = g1 at *
    generalize GV 2 (owL cs rs.length (k + 1)) = g2 at *
    generalize bys cs = wc at *
    generalize VL b0 c0 z0 rs = VV at *
    rw [law07_ShareJudged.L0_eq]
    have l0' := l0
    unfold lenL at l0'
    simp only [law07_ShareJudged.B0, law07_ShareJudged.B0.R0, beqT, beqF, exF_seq, exF_region, exF_block, exF_cond, exF_ret, exF_exit, exF_skip, runL, wantL, stepL, evL, evC, LEnv.at, putL, loadFine, loadL, cellsAt, Trk.putNew, Trk.up, Trk.touch, Trk.gives, Trk.calm, Trk.hit, opdsOf, Trk.fresh, LEnv.keep, LEnv.ofFrom, List.map_cons, List.map_nil, nbeq, nble, nblt, ofAV, ofAVs, lenL, bin_add, bin_sub, bin_mul, bin_eql, bin_neq, bin_lss, bin_leq, bin_gtr, bin_geq, natL_nat, natL_zero, natL_one, natL_two, Nat.zero_mul, List.any_cons, List.any_nil, Bool.or_false, Bool.false_or, Bool.true_or, Bool.or_true, Bool.and_true, Bool.true_and, Bool.and_false, Bool.false_and, Bool.not_true, Bool.not_false, Nat.reduceBEq, Nat.reduceEqDiff, decide_true, decide_false, cond_true, cond_false, List.filter_nil, List.filter_cons, Nat.reduceAdd, Nat.reduceLeDiff, reduceCtorEq, List.length_nil, List.length_cons, Nat.mul_one, if_true, if_false, Bool.false_eq_true, eq_self, and_true, true_and, retL, resultsL, resAllL, resOfL, List.append_nil, List.nil_append, true_or, or_true, false_or, or_false, false_and, and_false, not_true_eq_false, not_false_eq_true, ne_eq, unL, trim_nil, LV.pures, LV.pure, Nat.reduceDiv, Int.reduceEq, Int.reduceLT, Int.reduceLE, Int.natCast_zero, allocL, List.getElem?_cons_zero, List.getElem?_cons_succ, storeL, spliceL, List.take_zero, List.take_succ_cons, List.drop_zero, List.drop_succ_cons, List.drop_nil, List.take_nil, Nat.le_refl, Nat.reduceMul, List.set_cons_zero, List.set_cons_succ, LV.scalar, List.all_cons, List.all_nil, Nat.lt_add_one, Nat.zero_lt_one, Nat.reduceLT, Nat.lt_irrefl, fillL, foldIntL, kind_beq, pures_int, solids_int, plains_int, unders_int, scalars_int, show ((k : Int) < (n : Int)) by omega, hk6', Nat.zero_add, hm1, hbl, hat, hwr, l0, l0', hrm, hci, hvx, freeze_nil, ha, hws, ih]
theorem judR4 (VV vl vW R : LV) (f one other g : Int) (b : Nat) (m m1 : LMem) (hw : clF LP n_law07_worths [VV, vl] m = some (.P, R, m1)) (hl : ∀ m, clF LP n_law07_lists [vW, R] m = some (.P, .bool true, m)) (hb : m1[b]? = some ⟨[.int .i64 one, .int .i64 other], true⟩)
    (hg : (g = 0 ∧ f = 0) ∨ (g = 13 ∧ f ≠ 0)) :
    exF LP law07_ShareJudged.B.R4 [(5, VV), (6, vl), (8, vW), (9, .int .i64 0), (10, .int .i64 f), (11, .int .i64 0), (12, .int .i64 one), (13, .int .i64 other), (14, .int .i64 g), (15, .int .i64 f), (16, .ptr b 0 2)] m = some (.normal, [(5, VV), (6, vl), (109, .bool false)], m1) := by
  have hca : ∀ cs, (LV.agg cs).cells = some cs := fun _ => rfl
  have hci : ∀ n : Int, (LV.int .i64 n).cells = some [.int .i64 n] := fun _ => rfl
  have hof : ofAVs [.int .i64 0, .int .i64 0] = [LV.int .i64 0, LV.int .i64 0] := rfl
  rcases hg with ⟨rfl, rfl⟩ | ⟨rfl, hf⟩
  · simp (maxSteps := 1000000) only [law07_ShareJudged.B.R4, beqT, beqF, exF_seq, exF_region, exF_block, exF_cond, exF_ret, exF_exit, exF_skip, runL, wantL, stepL, evL, evC, LEnv.at, putL, loadFine, loadL, cellsAt, Trk.putNew, Trk.up, Trk.touch, Trk.gives, Trk.calm, Trk.hit, opdsOf, Trk.fresh, LEnv.keep, LEnv.ofFrom, List.map_cons, List.map_nil, nbeq, nble, nblt, ofAV, ofAVs, lenL, bin_add, bin_sub, bin_mul, bin_eql, bin_neq, bin_lss, bin_leq, bin_gtr, bin_geq, natL_nat, natL_zero, natL_one, natL_two, Nat.zero_mul, List.any_cons, List.any_nil, Bool.or_false, Bool.false_or, Bool.true_or, Bool.or_true, Bool.and_true, Bool.true_and, Bool.and_false, Bool.false_and, Bool.not_true, Bool.not_false, Nat.reduceBEq, Nat.reduceEqDiff, decide_true, decide_false, cond_true, cond_false, List.filter_nil, List.filter_cons, Nat.reduceAdd, Nat.reduceLeDiff, reduceCtorEq, List.length_nil, List.length_cons, Nat.mul_one, if_true, if_false, Bool.false_eq_true, eq_self, and_true, true_and, retL, resultsL, resAllL, resOfL, List.append_nil, List.nil_append, List.cons_append, true_or, or_true, false_or, or_false, false_and, and_false, not_true_eq_false, not_false_eq_true, ne_eq, unL, trim_nil, views_pures, LV.pures, LV.pure, freeze, Nat.reduceDiv, Int.reduceEq, Int.reduceLT, Int.reduceLE, Int.natCast_zero, LV.cells, allocL, List.getElem?_cons_zero, List.getElem?_cons_succ, storeL, spliceL, List.take_zero, List.take_succ_cons, List.drop_zero, List.drop_succ_cons, List.drop_nil, List.take_nil, Nat.le_refl, Nat.reduceMul, List.set_cons_zero, List.set_cons_succ, LV.scalar, List.all_cons, List.all_nil, Nat.lt_add_one, Nat.zero_lt_one, Nat.reduceLT, Nat.lt_irrefl, fillL, List.length_append, foldIntL, kind_beq, pures_int, solids_int, plains_int, unders_int, scalars_int, hw, hl, hb, hca, hci, hof, eqIntsL, beq_self_eq_true, Bool.and_self, Bool.xor_true, Bool.true_xor, Bool.false_xor]
  · simp (maxSteps := 1000000) only [law07_ShareJudged.B.R4, beqT, beqF, exF_seq, exF_region, exF_block, exF_cond, exF_ret, exF_exit, exF_skip, runL, wantL, stepL, evL, evC, LEnv.at, putL, loadFine, loadL, cellsAt, Trk.putNew, Trk.up, Trk.touch, Trk.gives, Trk.calm, Trk.hit, opdsOf, Trk.fresh, LEnv.keep, LEnv.ofFrom, List.map_cons, List.map_nil, nbeq, nble, nblt, ofAV, ofAVs, lenL, bin_add, bin_sub, bin_mul, bin_eql, bin_neq, bin_lss, bin_leq, bin_gtr, bin_geq, natL_nat, natL_zero, natL_one, natL_two, Nat.zero_mul, List.any_cons, List.any_nil, Bool.or_false, Bool.false_or, Bool.true_or, Bool.or_true, Bool.and_true, Bool.true_and, Bool.and_false, Bool.false_and, Bool.not_true, Bool.not_false, Nat.reduceBEq, Nat.reduceEqDiff, decide_true, decide_false, cond_true, cond_false, List.filter_nil, List.filter_cons, Nat.reduceAdd, Nat.reduceLeDiff, reduceCtorEq, List.length_nil, List.length_cons, Nat.mul_one, if_true, if_false, Bool.false_eq_true, eq_self, and_true, true_and, retL, resultsL, resAllL, resOfL, List.append_nil, List.nil_append, List.cons_append, true_or, or_true, false_or, or_false, false_and, and_false, not_true_eq_false, not_false_eq_true, ne_eq, unL, trim_nil, views_pures, LV.pures, LV.pure, freeze, Nat.reduceDiv, Int.reduceEq, Int.reduceLT, Int.reduceLE, Int.natCast_zero, LV.cells, allocL, List.getElem?_cons_zero, List.getElem?_cons_succ, storeL, spliceL, List.take_zero, List.take_succ_cons, List.drop_zero, List.drop_succ_cons, List.drop_nil, List.take_nil, Nat.le_refl, Nat.reduceMul, List.set_cons_zero, List.set_cons_succ, LV.scalar, List.all_cons, List.all_nil, Nat.lt_add_one, Nat.zero_lt_one, Nat.reduceLT, Nat.lt_irrefl, fillL, List.length_append, foldIntL, kind_beq, pures_int, solids_int, plains_int, unders_int, scalars_int, hw, hl, hb, hca, hci, hof, hf, eqIntsL, beq_self_eq_true, Bool.and_self, Bool.xor_true, Bool.true_xor, Bool.false_xor]
theorem pairs_of {m : LMem} {v : LV} {W : List (Nat × Nat)} (L : Lst m v 2 W.length (pcs W)) (hW : W.length < 1000) : clF LP n_law07_pairs [RP W, v] m = some (.P, .bool true, m) := by
  rcases L with ⟨nl, ex, z, rfl, _⟩ | ⟨b, rfl, h1, h2, h3⟩
  · exact pairs_refl _ _ _ _ _ _ W (by omega) m
  · have hv : ∀ k, view (k + 3) m (.sl b 0 W.length W.length 2 2 (W.length * 2)) = some (.lst false (Nat.beq 2 0 && Nat.beq W.length W.length) 2 W.length (pcs W), [b]) := fun k => by
      have := view_slc k m b 0 W.length (W.length * 2) 2 W.length 2 (pcs W) true h1 (by rw [List.drop_zero, List.take_of_length_le (by omega)]; exact pures_pcs _) h2 (by omega) (Nat.le_refl _)
      rw [List.drop_zero, List.take_of_length_le (by omega)] at this
      exact this
    exact call_view lp_law07_pairs rfl (views_in m (RP W) _ _ _ [] hv (pure_RP W) rfl (by simp [LV.pure]) (by simp)) (by simp [LV.pures, LV.pure, pures_pcs]) (pairs_refl _ _ _ _ _ _ W (by omega) []) rfl
theorem judged_in (ns : List Int) (hl : ns.length = 26) (hb : ∀ n ∈ ns, 0 ≤ n ∧ n < 256) (os : List Int) (hol : os.length = 6) (hob : ∀ n ∈ os, 0 ≤ n ∧ n < 256) :
    clF LP n_law07_ShareJudged [.agg (ns.map (LV.int .u8)), .agg (os.map (LV.int .u8))] [] = some (.P, .bool true, []) := by
  obtain ⟨w, rfl, hwb⟩ := bytes_nat ns hb
  obtain ⟨cs, rfl, hcb⟩ := bytes_nat os hob
  rw [ci_ln] at hl hol
  show clF LP n_law07_ShareJudged [.agg (bys w), .agg (bys cs)] [] = some (.P, .bool true, [])
  obtain ⟨b0, c0, z0, hm⟩ := made_c w hl hwb 4 6 20 (by omega) (by omega) (by omega)
  have hr := Nat.mod_lt (w.getD 0 0) (show 0 < 4 by omega)
  have hn := Nat.mod_lt (w.getD 1 0) (show 0 < 6 + 1 by omega)
  have hbl : (bys w).length = 26 := by simp [hl]
  have hbl2 : (bys cs).length = 6 := by simp [hol]
  have htk : (bys w).take 26 = bys w := List.take_of_length_le (by omega)
  have hps : LV.pures (bys w) = true := pures_int _ _
  have hps2 : LV.pures (bys cs) = true := pures_int _ _
  generalize hn' : w.getD 1 0 % (6 + 1) = n at *
  generalize hr' : 1 + w.getD 0 0 % 4 = r at *
  have hr1 : 1 ≤ r := by omega
  have hr4 : r ≤ 4 := by omega
  have hrl := rsM_len w 20 n r
  have hvals := rsM_vals w 20 n r
  have hol' := owL_len cs r n
  have hown := owL_lt cs r n (by omega)
  have D : LOk (rsM w 20 n r) (owL cs r n) := rsM_ok w 20 n r (by omega) (by omega) hr1 hr4 _ hol' (fun x hx => by have := hown x hx; omega)
  have hd : divE (vals (rsM w 20 n r)) (owL cs r n) = 0 := by rw [hvals]; exact divM w 20 n r (by omega) (by omega) hr1 hr4 _ hol' hown
  have hrow0 : ((rsM w 20 n r).map Row.lv)[0]? = some (rowR (rowL (cut6 w 0) 20 n)).lv := by
    rw [row_at _ _ (by omega), rsM_at]
  have hlen0 : lenL (rowR (rowL (cut6 w 0) 20 n)).lv = some n := by
    show some (rowL (cut6 w 0) 20 n).length = some n
    rw [rowL_len]
  have l0 := judgedL0 cs hol hcb ⟨bys w, true⟩ b0 c0 z0 (rsM w 20 n r) (by omega) (by omega) n (by omega) n 0 (by omega)
  have e0 : owL cs (rsM w 20 n r).length 0 = [] := rfl
  rw [e0, GV_nil, GM_nil, List.append_nil, Int.natCast_zero, hrl] at l0
  have H0 : Hold ([⟨bys w, true⟩, ⟨bys cs, true⟩] ++ GM (owL cs r n)) (GV 2 (owL cs r n)) (owL cs r n) := Hold.gv [⟨bys w, true⟩, ⟨bys cs, true⟩] _
  generalize hrs : rsM w 20 n r = rs at *
  generalize hoo : owL cs r n = o at *
  generalize hvl : GV 2 o = vl at *
  generalize hM0 : ([⟨bys w, true⟩, ⟨bys cs, true⟩] ++ GM o : LMem) = M0 at *
  have hpv : (VL b0 c0 z0 rs).pure = true := by simp only [LV.pure, pures_row]
  obtain ⟨m1, k1, H1, _, _⟩ := H0.call lp_share_Worth rfl (a := VL b0 c0 z0 rs) hpv (r := []) rfl (by simp) (fun b c z q1 q2 m => worthP_c b0 c0 b c z0 z rs o (in_lok D q1 q2) m)
  obtain ⟨m2, k2, H2, _, _⟩ := H1.call lp_share_Fair rfl (a := VL b0 c0 z0 rs) hpv (r := []) rfl (by simp) (fun b c z q1 q2 m => fairP_c b0 c0 b c z0 z rs o (in_lok D q1 q2) m)
  obtain ⟨m3, k3, H3, _, _⟩ := H2.call lp_share_Why rfl (a := VL b0 c0 z0 rs) hpv (r := []) rfl (by simp) (fun b c z q1 q2 m => whyP_c b0 c0 b c z0 z rs o (in_lok D q1 q2) m)
  obtain ⟨m4, k4, H4, _, _⟩ := H3.call lp_law07_judged rfl (a := VL b0 c0 z0 rs) hpv (r := []) rfl (by simp) (fun b c z q1 q2 m => judged_c b0 c0 b c z0 z D m)
  rw [hd] at k1 k2
  have hfair : fairV (vals rs) o = judF (vals rs) o := by
    unfold fairV judF stF
    rw [if_neg (by simpa using hd)]
  rw [hfair] at k2
  obtain ⟨p, q, g, hwhy, hhead, hg⟩ : ∃ p q g : Int, whyV (vals rs) o = (p, q, g) ∧ (((PX (vals rs) o).headD (0, 0)).1 : Int) = p ∧ (((PX (vals rs) o).headD (0, 0)).2 : Int) = q ∧ ((g = 0 ∧ judF (vals rs) o = 0) ∨ (g = 13 ∧ judF (vals rs) o ≠ 0)) := by
    unfold whyV judF stF
    rw [if_neg (by simpa using hd)]
    cases hX : PX (vals rs) o with
    | nil =>
      refine ⟨0, 0, 13, rfl, rfl, rfl, .inr ⟨rfl, ?_⟩⟩
      simp only [ne_eq, not_true_eq_false, if_false]
      try (split <;> omega)
    | cons a t => exact ⟨(a.1 : Int), (a.2 : Int), 0, rfl, rfl, rfl, .inl ⟨rfl, by simp⟩⟩
  obtain ⟨hhead2, hg⟩ := hg
  rw [hwhy] at k3
  rw [hhead, hhead2] at k4
  -- the block of the two finders
  obtain ⟨M5, hM5⟩ : ∃ M, M = m4 ++ [(⟨[.int .i64 p, .int .i64 q], true⟩ : LBlk)] := ⟨_, rfl⟩
  have H5 : Hold M5 vl o := H4.mono fun i hi => by rw [hM5, List.getElem?_append_left (H4.lt i hi)]
  have hb5 : M5[m4.length]? = some ⟨[.int .i64 p, .int .i64 q], true⟩ := by rw [hM5]; simp
  obtain ⟨m6, k6, H6, f6, _⟩ := H5.call lp_law07_worths rfl (a := VL b0 c0 z0 rs) hpv (r := []) rfl (by simp) (fun b c z q1 q2 m => worths_c b0 c0 b c z0 z D m)
  have hb6 : m6[m4.length]? = some ⟨[.int .i64 p, .int .i64 q], true⟩ := by rw [f6 _ (fun h => by have := H4.lt _ h; omega)]; exact hb5
  have hlist : ∀ m, clF LP n_law07_lists [RW (worthV (vals rs) o), VL false true 1 (WR (vals rs) o)] m = some (.P, .bool true, m) := fun m => by
    have hv1 : vals ((worthV (vals rs) o).map fun l => (⟨false, false, 1, l⟩ : Row)) = vals (WR (vals rs) o) := by
      unfold worthV
      rw [if_neg (by simpa using hd)]
      simp [vals, WR, wrows, Function.comp_def, List.range_eq_range']
    have hA : (worthV (vals rs) o).map rlv = ((worthV (vals rs) o).map fun l => (⟨false, false, 1, l⟩ : Row)).map Row.lv := by simp [Function.comp_def]
    have hvl : (worthV (vals rs) o).length = (vals rs).length := by
      unfold worthV
      rw [if_neg (by simpa using hd)]
      simp [wrows]
    have h4 := D.le4
    have := lrows_refl (decide (worthV (vals rs) o = [])) (decide (worthV (vals rs) o = [])) false true (cond (decide (worthV (vals rs) o = [])) 0 1) 1 _ _ hv1 (by rw [List.length_map, hvl, vals_length]; omega) (fun r hr => by
      obtain ⟨l, hl, rfl⟩ := List.mem_map.1 hr
      unfold worthV at hl
      rw [if_neg (by simpa using hd)] at hl
      obtain ⟨i, _, rfl⟩ := List.mem_map.1 hl
      show (wrow _ _ _ _ _).length < _
      rw [wrow_len, vals_length]; omega) m
    rw [VL, ← hA, List.length_map] at this
    exact this
  have r4 := judR4 (VL b0 c0 z0 rs) vl (RW (worthV (vals rs) o)) (VL false true 1 (WR (vals rs) o)) (judF (vals rs) o) p q g m4.length M5 m6 k6 hlist hb6 hg
  obtain ⟨m7, vw, k7, H7, L7, d7⟩ := judgedL2 b0 c0 z0 D hd vl rs.length 0 m6 (.lst true true 0 0 []) [] (by omega) H6 (Lst.nil _ 2) (fun b _ h => h) (by have := D.le4; simp; omega)
  rw [List.nil_append] at L7
  have hPW : outer (fun i j => decide (0 < eW (vals rs) o i j)) rs.length 0 rs.length = PW (vals rs) o := by unfold PW; rw [vals_length]
  rw [hPW] at L7
  obtain ⟨m8, k8, H8, f8, _⟩ := H7.call lp_share_Envy rfl (a := VL b0 c0 z0 rs) hpv (r := []) rfl (by simp) (fun b c z q1 q2 m => envyP_c b0 c0 b c z0 z rs o (in_lok D q1 q2) m)
  rw [hd, envyV, if_neg (by simpa using hd)] at k8
  have L8 := L7.mono (m' := m8) fun i hi => f8 i fun h => d7 i h hi
  have hPl : (PW (vals rs) o).length < 1000 := by
    have := P_len D.d (fun i j => decide (0 < eW (vals rs) o i j))
    rw [hPW] at this; omega
  have r6 := pairs_of L8 hPl
  have hpure : LV.pures [LV.agg (bys w), LV.agg (bys cs)] = true := by simp only [LV.pures, LV.pure, hps, hps2, Bool.and_true]
  refine call_P lp_law07_ShareJudged rfl hpure (m1 := m8) ?_ rfl []
  have lVV : lenL (VL b0 c0 z0 rs) = some rs.length := rfl
  have hca : ∀ cs, (LV.agg cs).cells = some cs := fun _ => rfl
  have hof : ofAVs [.int .i64 0, .int .i64 0] = [LV.int .i64 0, LV.int .i64 0] := rfl
  have hz1 : ∀ x : LBlk, (m4 ++ [x])[m4.length]? = some x := fun x => by simp
  have hz2 : ∀ x y : LBlk, (m4 ++ [x]).set m4.length y = m4 ++ [y] := fun x y => by simp
  have hdr : List.drop 2 [LV.int .i64 0, LV.int .i64 0] = [] := rfl
  have h0r : 0 < rs.length := by omega
  simp only [Int.natCast_zero] at k7
  have hm : ∀ m, clF LP n_law07_Heap_made [.agg (bys w), .int .i64 4, .int .i64 6, .int .i64 20] m = some (.P, VL b0 c0 z0 rs, m) := hm
  rw [hM5] at r4
  generalize judF (vals rs) o = F at *
  generalize RW (worthV (vals rs) o) = RW1 at *
  generalize RP (PW (vals rs) o) = RP1 at *
  generalize VL false true 1 (WR (vals rs) o) = VW at *
  generalize bys cs = wc at *
  generalize bys w = ww at *
  simp (maxSteps := 1000000) only [law07_ShareJudged, law07_ShareJudged.B, law07_ShareJudged.B.R0, law07_ShareJudged.B.R1, law07_ShareJudged.B.R2, law07_ShareJudged.B.R3, law07_ShareJudged.B.R5, law07_ShareJudged.B.R6, beqT, beqF, exF_seq, exF_region, exF_block, exF_cond, exF_ret, exF_exit, exF_skip, runL, wantL, stepL, evL, evC, LEnv.at, putL, loadFine, loadL, cellsAt, Trk.putNew, Trk.up, Trk.touch, Trk.gives, Trk.calm, Trk.hit, opdsOf, Trk.fresh, LEnv.keep, LEnv.ofFrom, List.map_cons, List.map_nil, nbeq, nble, nblt, ofAV, ofAVs, bin_add, bin_sub, bin_mul, bin_eql, bin_neq, bin_lss, bin_leq, bin_gtr, bin_geq, natL_nat, natL_zero, natL_one, natL_two, Nat.zero_mul, List.any_cons, List.any_nil, Bool.or_false, Bool.false_or, Bool.true_or, Bool.or_true, Bool.and_true, Bool.true_and, Bool.and_false, Bool.false_and, Bool.not_true, Bool.not_false, Nat.reduceBEq, Nat.reduceEqDiff, decide_true, decide_false, cond_true, cond_false, List.filter_nil, List.filter_cons, Nat.reduceAdd, Nat.reduceLeDiff, reduceCtorEq, List.length_nil, List.length_cons, Nat.mul_one, if_true, if_false, Bool.false_eq_true, eq_self, and_true, true_and, retL, resultsL, resAllL, resOfL, List.append_nil, List.nil_append, List.cons_append, true_or, or_true, false_or, or_false, false_and, and_false, not_true_eq_false, not_false_eq_true, ne_eq, unL, trim_nil, views_pures, LV.pures, LV.pure, freeze, Nat.reduceDiv, Int.reduceEq, Int.reduceLT, Int.reduceLE, Int.natCast_zero, LV.cells, allocL, List.getElem?_cons_zero, List.getElem?_cons_succ, storeL, spliceL, List.take_zero, List.take_succ_cons, List.drop_zero, List.drop_succ_cons, List.drop_nil, List.take_nil, Nat.le_refl, Nat.reduceMul, List.set_cons_zero, List.set_cons_succ, LV.scalar, List.all_cons, List.all_nil, Nat.lt_add_one, Nat.zero_lt_one, Nat.reduceLT, Nat.lt_irrefl, fillL, List.length_append, foldIntL, kind_beq, pures_int, solids_int, plains_int, unders_int, scalars_int, hbl, hbl2, htk, hm, lVV, hrow0, hlen0, h0r, l0, k1, k2, k3, k4, hof, hca, hz1, hz2, hdr, Nat.zero_add, r4, k7, k8, r6, works_c]

end Go.Am.Share

/-
  THE JOIN: arguments that came in, as the list machine's lists; what the list machine's answer says of the model's call.
-/
set_option linter.unusedVariables false
namespace Go.Am
variable [Glo]
open Go.RowKit

def Placed (ρ : PM) (b : Nat) (ps : List Place) : Prop := ∀ (i : Nat) (p : Place), ps[i]? = some p → ρ (b + i) = some p
def Shows (s : Sit) (b : Nat) (bl : List (List AV)) : Prop := ∀ (i : Nat) (cs : List AV), bl[i]? = some cs → s.A (b + i) ∧ s.am.look (b + i) = some ⟨cs, false⟩

/-- An argument that reads as a value of the list machine. -/
def ArgOk (w : World) (v : Value) (lv : LV) : Prop :=
  ∃ (bl : Nat → List (List AV)) (ps : List Place) (av : Nat → AV), (∀ b, (bl b).length = ps.length) ∧
    (∀ (ρ : PM) (b : Nat), Placed ρ b ps → VR ρ (av b) v ∧ ∀ (i : Nat) (cs : List AV) (p : Place), (bl b)[i]? = some cs → ps[i]? = some p → CellsAt ρ w cs p) ∧
    (∀ (s : Sit) (b : Nat), Shows s b (bl b) → LR s lv (av b))
inductive ArgsOk (w : World) : List Value → List LV → Prop
  | nil : ArgsOk w [] []
  | cons {v : Value} {lv : LV} {vs : List Value} {lvs : List LV} (h : ArgOk w v lv) (hr : ArgsOk w vs lvs) : ArgsOk w (v :: vs) (lv :: lvs)

omit [Glo] in
theorem append_get {α : Type} (a b : List α) (i : Nat) (x : α) (h : (a ++ b)[i]? = some x) : (i < a.length ∧ a[i]? = some x) ∨ (a.length ≤ i ∧ b[i - a.length]? = some x) := by
  by_cases hi : i < a.length
  · rw [List.getElem?_append_left hi] at h; exact .inl ⟨hi, h⟩
  · rw [List.getElem?_append_right (by omega)] at h; exact .inr ⟨by omega, h⟩

omit [Glo] in
theorem args_all {w : World} : ∀ {vs : List Value} {lvs : List LV}, ArgsOk w vs lvs → ∃ (bl : Nat → List (List AV)) (ps : List Place) (avs : Nat → List AV), (∀ b, (bl b).length = ps.length) ∧
    (∀ (ρ : PM) (b : Nat), Placed ρ b ps → VRs ρ (avs b) vs ∧ ∀ (i : Nat) (cs : List AV) (p : Place), (bl b)[i]? = some cs → ps[i]? = some p → CellsAt ρ w cs p) ∧
    (∀ (s : Sit) (b : Nat), Shows s b (bl b) → LRs s lvs (avs b))
  | _, _, .nil => ⟨fun _ => [], [], fun _ => [], fun _ => rfl, fun ρ b _ => ⟨.nil, fun i cs p h => by simp at h⟩, fun s b _ => .nil⟩
  | _, _, .cons h hr => by
    obtain ⟨bl1, ps1, av1, a1, a2, a3⟩ := h
    obtain ⟨bl2, ps2, av2, b1, b2, b3⟩ := args_all hr
    refine ⟨fun b => bl1 b ++ bl2 (b + ps1.length), ps1 ++ ps2, fun b => av1 b :: av2 (b + ps1.length), fun b => by simp [a1, b1], fun ρ b hp => ?_, fun s b hs => ?_⟩
    · have hp1 : Placed ρ b ps1 := fun i p h => hp i p (by rw [List.getElem?_append_left (List.getElem?_eq_some_iff.1 h).1]; exact h)
      have hp2 : Placed ρ (b + ps1.length) ps2 := fun i p h => by
        have := hp (ps1.length + i) p (by rw [List.getElem?_append_right (by omega)]; simpa using h)
        rw [Nat.add_assoc]; exact this
      obtain ⟨c1, c2⟩ := a2 ρ b hp1
      obtain ⟨d1, d2⟩ := b2 ρ _ hp2
      refine ⟨.cons c1 d1, fun i cs p hcs hpp => ?_⟩
      rcases append_get _ _ _ _ hcs with ⟨e1, e2⟩ | ⟨e1, e2⟩
      · rw [a1] at e1
        rw [List.getElem?_append_left e1] at hpp
        exact c2 i cs p e2 hpp
      · rw [a1] at e1 e2
        rw [List.getElem?_append_right e1] at hpp
        exact d2 _ cs p e2 hpp
    · refine .cons (a3 s b fun i cs h => hs i cs (by rw [List.getElem?_append_left (List.getElem?_eq_some_iff.1 h).1]; exact h)) (b3 s _ fun i cs h => ?_)
      have := hs (ps1.length + i) cs (by rw [List.getElem?_append_right (by rw [a1]; omega)]; rw [a1]; simpa using h)
      rw [Nat.add_assoc]; exact this

/-- Where the package-level variables lie. -/
def gPlaces (n : Nat) : List Place := (List.range n).map fun g => ⟨g, 0, 0⟩
omit [Glo] in
theorem gPlaces_get {n g : Nat} {p : Place} (h : (gPlaces n)[g]? = some p) : p = ⟨g, 0, 0⟩ := by
  unfold gPlaces at h
  rw [List.getElem?_map] at h
  obtain ⟨x, hx, rfl⟩ := Option.map_eq_some_iff.1 h
  have hg := (List.getElem?_eq_some_iff.1 hx).1
  simp at hg
  rw [List.getElem?_range hg] at hx
  cases hx; rfl

/-- WHAT A LAW's WALK ASKS OF THE LIST MACHINE. -/
theorem law_glob {P : Program} {C : Prog} {LP : LProg} (hC : ProgOk C P) (hmix : P.follows .mixedOrders = true) (hL : ProgL LP C) {f : Nat} {lvs : List LV} {md : Mode} {m' : LMem} (h : clF LP f lvs [] = some (md, .bool true, m'))
    {w : World} {cargs : Array Value} (ha : ArgsOk w cargs.toList lvs) (gb : List (List AV)) (hgb : gb.length = P.globals.size) (hT : ∀ g l, Glo.tab g = some l → gb[g]? = some l) (hcell : ∀ (ρ : PM) (g : Nat) (cs : List AV), gb[g]? = some cs → CellsAt ρ w cs ⟨g, 0, 0⟩) :
    Calls P f cargs w fun e w' => e = .returned (.bool true) ∧ Below w.heap.size w w' := by
  obtain ⟨bl, ps, avs, h1, h2, h3⟩ := args_all ha
  obtain ⟨n, hn⟩ := clF_some.1 h
  generalize hN : gb.length = N at hgb
  generalize hall : gb ++ bl N = all
  have hget : ∀ (i : Nat) (cs : List AV), (bl N)[i]? = some cs → all[N + i]? = some cs := fun i cs hi => by
    rw [← hall, List.getElem?_append_right (by omega), hN, Nat.add_sub_cancel_left]; exact hi
  have hs : Shows ⟨[], memOf all, fun _ => 0, fun b => b < all.length⟩ N (bl N) := fun i cs hi =>
    ⟨(List.getElem?_eq_some_iff.1 (hget i cs hi)).1, by show (memOf all).look (N + i) = _; rw [memOf_look, hget i cs hi]; rfl⟩
  have hrel : Rel2 ⟨[], memOf all, fun _ => 0, fun b => b < all.length⟩ := by
    refine ⟨fun i b hb => by simp at hb, fun i j b b' hb => by simp at hb, fun b hb => ?_, fun b ab hb => ?_, fun g l hg => ?_⟩
    · have hb : b < all.length := hb
      exact ⟨⟨all[b], false⟩, by show (memOf all).look b = _; rw [memOf_look, List.getElem?_eq_getElem hb]; rfl⟩
    · have hb : (memOf all).look b = some ab := hb
      show b < (memOf all).next
      rw [memOf_next]
      rw [memOf_look] at hb
      obtain ⟨x, hx, _⟩ := Option.map_eq_some_iff.1 hb
      exact (List.getElem?_eq_some_iff.1 hx).1
    · have e : all[g]? = some l := by
        have := hT g l hg
        rw [← hall, List.getElem?_append_left (List.getElem?_eq_some_iff.1 this).1]; exact this
      exact ⟨(List.getElem?_eq_some_iff.1 e).1, by show (memOf all).look g = _; rw [memOf_look, e]; rfl⟩
  obtain ⟨av, am', h4, t, _, _, _, _, h5, _⟩ := callL_sound hL n f lvs [] md (.bool true) m' hn _ (avs N) rfl hrel (h3 _ N hs)
  cases h5
  generalize hpl : gPlaces N ++ ps = pl
  have hgl : (gPlaces N).length = N := by simp [gPlaces]
  have hplaced : Placed (placesOf pl) N ps := fun i p hp => by
    show pl[N + i]? = some p
    rw [← hpl, List.getElem?_append_right (by omega), hgl, Nat.add_sub_cancel_left]; exact hp
  obtain ⟨h6, h7⟩ := h2 (placesOf pl) N hplaced
  refine law_calls hC hmix (l := all) (ps := pl) h4 (by rw [← hall, ← hpl, List.length_append, List.length_append, h1, hgl, hN]) (fun i cs p hcs hp => ?_) h6 fun g hg => ?_
  · rw [← hall] at hcs
    rw [← hpl] at hp
    rcases append_get _ _ _ _ hcs with ⟨e1, e2⟩ | ⟨e1, e2⟩
    · rw [List.getElem?_append_left (by omega)] at hp
      rw [gPlaces_get hp]
      exact hcell _ i cs e2
    · rw [List.getElem?_append_right (by omega), hgl] at hp
      rw [hN] at e2
      exact h7 _ cs p e2 hp
  · have hg : g < N := by omega
    refine ⟨⟨g, 0, 0⟩, ?_, rfl, rfl⟩
    show pl[g]? = _
    rw [← hpl, List.getElem?_append_left (by omega)]
    simp [gPlaces, hg]

theorem law_list {P : Program} {C : Prog} {LP : LProg} (hC : ProgOk C P) (hmix : P.follows .mixedOrders = true) (hL : ProgL LP C) {f : Nat} {lvs : List LV} {md : Mode} {m' : LMem} (h : clF LP f lvs [] = some (md, .bool true, m')) (hG : P.globals.size = 0) (hT : ∀ g, Glo.tab g = none)
    {w : World} {cargs : Array Value} (ha : ArgsOk w cargs.toList lvs) : Calls P f cargs w fun e w' => e = .returned (.bool true) ∧ Below w.heap.size w w' :=
  law_glob hC hmix hL h ha [] (by simp [hG]) (fun g l hg => by rw [hT g] at hg; cases hg) (fun ρ g cs hg => by simp at hg)
end Go.Am

/-
  THE JOIN, 2: lists of numbers, and lists of lists, that came in.
-/
set_option linter.unusedVariables false
namespace Go.Am
variable [Glo]
open Go.ChangeShapes Go.RowKit Go.Deep

end Go.Am

/-
  THE JOIN, 3: arguments read behind the call as before it.
-/
set_option linter.unusedVariables false
namespace Go.Am
variable [Glo]
open Go.RowKit
omit [Glo] in
theorem trodAll_below {H : Type} {enc : TypeId × Value → H} {P : Program} {W W' : World} (hl : laidOutB P = true) (hb : Below W.heap.size W W') : ∀ {ts : List TypeId} {vs : List Value} {ds : List (DataW H)} {ps : List MemPlace}, (ts.all fun t => P.readableRec t && decide (t < P.types.size)) = true →
    DataW.TrodAll enc P W 0 (fun _ => true) true ts vs ds ps → (∀ x ∈ ps, x.block < W.heap.size) → DataW.TrodAll enc P W' 0 (fun b => decide (b < W.heap.size)) true ts vs ds ps
  | [], [], [], _, _, h, _ => h
  | t :: ts, v :: vs, d :: ds, ps, hr, ⟨p, q, h1, h2, e⟩, hlt => by
    simp only [List.all_cons, Bool.and_eq_true, decide_eq_true_eq] at hr
    subst e
    exact ⟨p, q, Below.trod hl hr.1.1 hr.1.2 h1 hb (fun x hx => hlt x (List.mem_append_left _ hx)), trodAll_below hl hb hr.2 h2 (fun x hx => hlt x (List.mem_append_right _ hx)), rfl⟩
end Go.Am

/-
  THE JOIN, 4: structs of bytes that came in.
-/
set_option linter.unusedVariables false
namespace Go.Am
variable [Glo]
open Go.RowKit

/-! ### Types that hold bytes alone -/
def sumPc : Nat → List (Nat × Nat) → Option Nat
  | off, [] => some off
  | off, (o, k) :: r => cond (Nat.beq o off) (sumPc (off + k) r) none
def pcsF (P : Program) (g : TypeId → Option Nat) : List Field → Option (List (Nat × Nat))
  | [] => some []
  | f :: r => match g f.type with
    | some k => match pcsF P g r with
      | some l => cond (Nat.beq (P.cellsOf f.type) k) (some ((f.offset, k) :: l)) none
      | none => none
    | none => none
/-- How many bytes. -/
def u8T (P : Program) : Nat → TypeId → Option Nat
  | 0, _ => none
  | n + 1, t => match P.underlying t with
    | some (.int .u8) => some 1
    | some (.array m e) => match u8T P n e with
      | some k => cond (Nat.beq (P.cellsOf e) k && Nat.beq (P.cellsOf t) (m * k)) (some (m * k)) none
      | none => none
    | some (.struct fs) => match pcsF P (u8T P n) fs.toList with
      | some l => match sumPc 0 l with
        | some k => cond (Nat.beq (P.cellsOf t) k) (some k) none
        | none => none
      | none => none
    | _ => none
def U8s (cs : List Value) : Prop := ∀ (i : Nat) (v : Value), cs[i]? = some v → ∃ n : Int, v = .int .u8 n ∧ (Lit.int .u8 n).wf = true

omit [Glo] in
theorem sumPc_in : ∀ (l : List (Nat × Nat)) (off tot : Nat), sumPc off l = some tot → ∀ i, off ≤ i → i < tot → ∃ p ∈ l, p.1 ≤ i ∧ i < p.1 + p.2
  | [], off, tot, h, i, h1, h2 => by simp only [sumPc, Option.some.injEq] at h; omega
  | (o, k) :: r, off, tot, h, i, h1, h2 => by
    simp only [sumPc] at h
    cases c : Nat.beq o off <;> rw [c] at h
    · cases h
    · have e : o = off := by simpa using c
      subst e
      by_cases hi : i < o + k
      · exact ⟨(o, k), by simp, h1, hi⟩
      · obtain ⟨p, hp, h3⟩ := sumPc_in r _ _ h i (by omega) h2
        exact ⟨p, by simp [hp], h3⟩
omit [Glo] in
theorem pcsF_in {P : Program} {g : TypeId → Option Nat} : ∀ (fs : List Field) (l : List (Nat × Nat)), pcsF P g fs = some l → ∀ p ∈ l, ∃ (i : Nat) (f : Field), fs[i]? = some f ∧ f.offset = p.1 ∧ g f.type = some p.2 ∧ P.cellsOf f.type = p.2
  | [], l, h, p, hp => by simp only [pcsF, Option.some.injEq] at h; subst h; cases hp
  | f :: r, l, h, p, hp => by
    simp only [pcsF] at h
    split at h
    · rename_i k hk
      split at h
      · rename_i l' hl'
        cases c : Nat.beq (P.cellsOf f.type) k <;> rw [c] at h
        · cases h
        · simp only [cond_true, Option.some.injEq] at h
          subst h
          rcases List.mem_cons.1 hp with rfl | hp
          · exact ⟨0, f, rfl, rfl, hk, by simpa using c⟩
          · obtain ⟨i, f', h1, h2⟩ := pcsF_in r l' hl' p hp
            exact ⟨i + 1, f', by simpa using h1, h2⟩
      · cases h
    · cases h

section
variable {H : Type} {enc : TypeId × Value → H} {P : Program} {w : World} {base : Nat} {sp : Nat → Bool} {held : Bool}
omit [Glo] in
theorem u8T_ok : ∀ (n : Nat) (t : TypeId) (fuel : Nat) (cs : List Value) (x : DataW H × List MemPlace) (k : Nat), u8T P n t = some k → DataW.trod enc P w base sp held fuel t cs = some x → U8s cs ∧ cs.length = k
  | 0, _, _, _, _, _, h, _ => by cases h
  | n + 1, t, fuel, cs, x, k, h, hx => by
    simp only [u8T] at h
    split at h
    · rename_i ht
      cases h
      obtain ⟨a, rfl, _, hw⟩ := DataW.trod_int ht hx
      refine ⟨fun i v hv => ?_, rfl⟩
      match i with
      | 0 => simp at hv; subst hv; exact ⟨a, rfl, hw⟩
      | i + 1 => simp at hv
    · rename_i m e ht
      split at h
      · rename_i k' hk'
        cases c : (Nat.beq (P.cellsOf e) k' && Nat.beq (P.cellsOf t) (m * k')) <;> rw [c] at h
        · cases h
        · simp only [cond_true, Option.some.injEq] at h
          subst h
          simp only [Bool.and_eq_true] at c
          have c1 : P.cellsOf e = k' := by simpa using c.1
          have c2 : P.cellsOf t = m * k' := by simpa using c.2
          obtain ⟨xs, m', _, _, hl, hxl, hf⟩ := DataW.trod_array ht hx
          rw [c2] at hl
          refine ⟨fun i v hv => ?_, hl⟩
          have hi : i < m * k' := by rw [← hl]; exact (List.getElem?_eq_some_iff.1 hv).1
          have hk0 : 0 < k' := by
            rcases Nat.eq_zero_or_pos k' with e0 | e0
            · rw [e0] at hi; simp at hi
            · exact e0
          have h1 : i / k' < m := (Nat.div_lt_iff_lt_mul hk0).2 hi
          have h2 : i % k' < k' := Nat.mod_lt _ hk0
          have h3 : (i / k') * k' + i % k' = i := by rw [Nat.mul_comm]; exact Nat.div_add_mod i k'
          have h4 := hf (i / k') h1
          rw [c1] at h4
          obtain ⟨y, hy⟩ : ∃ y, xs[i / k']? = some y := ⟨xs[i / k']'(by omega), List.getElem?_eq_getElem (by omega)⟩
          rw [hy] at h4
          obtain ⟨h5, _⟩ := u8T_ok n e m' _ y k' hk' h4
          refine h5 (i % k') v ?_
          rw [List.getElem?_take, if_pos h2, List.getElem?_drop, h3]
          exact hv
      · cases h
    · rename_i fs ht
      split at h
      · rename_i l hl'
        split at h
        · rename_i k' hk'
          cases c : Nat.beq (P.cellsOf t) k' <;> rw [c] at h
          · cases h
          · simp only [cond_true, Option.some.injEq] at h
            subst h
            have c2 : P.cellsOf t = k' := by simpa using c
            obtain ⟨xs, m', _, _, hl, hxl, hf⟩ := DataW.trod_struct ht hx
            rw [c2] at hl
            refine ⟨fun i v hv => ?_, hl⟩
            have hi : i < k' := by rw [← hl]; exact (List.getElem?_eq_some_iff.1 hv).1
            obtain ⟨p, hp, p1, p2⟩ := sumPc_in l 0 k' hk' i (Nat.zero_le _) hi
            obtain ⟨j, f, f1, f2, f3, f4⟩ := pcsF_in _ _ hl' p hp
            have f1' : fs[j]? = some f := by simpa using f1
            have hj : j < fs.size := (Array.getElem?_eq_some_iff.1 f1').1
            have h4 := hf j f f1'
            rw [f4, f2] at h4
            obtain ⟨y, hy⟩ : ∃ y, xs[j]? = some y := ⟨xs[j]'(by omega), List.getElem?_eq_getElem (by omega)⟩
            rw [hy] at h4
            obtain ⟨h5, _⟩ := u8T_ok n f.type m' _ y p.2 f3 h4
            refine h5 (i - p.1) v ?_
            rw [List.getElem?_take, if_pos (by omega), List.getElem?_drop, show p.1 + (i - p.1) = i by omega]
            exact hv
        · cases h
      · cases h
    · cases h

omit [Glo] in
theorem u8s_list : ∀ {cs : List Value}, U8s cs → ∃ ns : List Int, cs = ns.map (Value.int .u8) ∧ ∀ n ∈ ns, 0 ≤ n ∧ n < 256
  | [], _ => ⟨[], rfl, by simp⟩
  | v :: r, h => by
    obtain ⟨n, rfl, hw⟩ := h 0 v rfl
    obtain ⟨ns, e, hb⟩ := u8s_list (cs := r) fun i v hv => h (i + 1) v (by simpa using hv)
    refine ⟨n :: ns, by rw [e]; rfl, ?_⟩
    intro x hx
    rcases List.mem_cons.1 hx with rfl | hx
    · have := bounds_u8 hw; omega
    · exact hb x hx

omit [Glo] in
theorem argOk_bytes (w : World) (ns : List Int) : ArgOk w (.agg (ns.map (Value.int .u8)).toArray) (.agg (ns.map (LV.int .u8))) := by
  refine ⟨fun _ => [], [], fun _ => .agg (ns.map (AV.int .u8)), fun _ => rfl, fun ρ b _ => ⟨.agg ?_, fun i cs p h => by simp at h⟩, fun s b _ => .agg ?_⟩
  · show VRs ρ _ (ns.map (Value.int .u8)).toArray.toList
    simp only []
    induction ns with
    | nil => exact .nil
    | cons n r ih => exact .cons (.int _ _) ih
  · exact LRs.map _ fun x _ => .int _ _

omit [Glo] in
/-- A struct of bytes among the arguments. -/
theorem argOk_struct {r : Reach} {b0 n k : Nat} {t : TypeId} {fs : Array Field} {v : Value} {d : DataW H} {ps : List MemPlace} (ht : P.underlying t = some (.struct fs)) (hk : u8T P n t = some k)
    (hval : Value.okWide P w r b0 t v) (hd : DataW.Trod enc P w base sp held t v d ps) :
    ∃ ns : List Int, ns.length = k ∧ (∀ n ∈ ns, 0 ≤ n ∧ n < 256) ∧ ArgOk w v (.agg (ns.map (LV.int .u8))) := by
  obtain ⟨cs, rfl, _⟩ := Go.WideShapes.okWide_struct ht hval
  obtain ⟨fuel, hf⟩ := hd
  obtain ⟨h1, h2⟩ := u8T_ok n t fuel _ _ k hk hf
  obtain ⟨ns, e, hb⟩ := u8s_list h1
  have e' : cs = (ns.map (Value.int .u8)).toArray := by
    apply Array.ext'
    simpa [Value.cells] using e
  subst e'
  refine ⟨ns, ?_, hb, argOk_bytes w ns⟩
  simpa [Value.cells] using h2
omit [Glo] in
/-- An array of bytes among the arguments. -/
theorem argOk_array {r : Reach} {b0 n k m : Nat} {t e : TypeId} {v : Value} {d : DataW H} {ps : List MemPlace} (ht : P.underlying t = some (.array m e)) (hk : u8T P n t = some k)
    (hval : Value.okWide P w r b0 t v) (hd : DataW.Trod enc P w base sp held t v d ps) :
    ∃ ns : List Int, ns.length = k ∧ (∀ n ∈ ns, 0 ≤ n ∧ n < 256) ∧ ArgOk w v (.agg (ns.map (LV.int .u8))) := by
  obtain ⟨cs, rfl, _⟩ : ∃ cs, v = .agg cs ∧ cs.size = P.cellsOf t := by
    simp only [Value.okWide, ht] at hval
    obtain ⟨cs, h1, h2, _⟩ := hval
    exact ⟨cs, h1, h2⟩
  obtain ⟨fuel, hf⟩ := hd
  obtain ⟨h1, h2⟩ := u8T_ok n t fuel _ _ k hk hf
  obtain ⟨ns, e, hb⟩ := u8s_list h1
  have e' : cs = (ns.map (Value.int .u8)).toArray := by
    apply Array.ext'
    simpa [Value.cells] using e
  subst e'
  refine ⟨ns, ?_, hb, argOk_bytes w ns⟩
  simpa [Value.cells] using h2
end
end Go.Am


