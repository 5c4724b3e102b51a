import Derived.Test.YtcckhkcchpfdoaaShareD17
import Derived.Test.YtcckhkcchpfdoaaShareC19
import Derived.Test.YtcckhkcchpfdoaaShareD16
import Derived.Test.YtcckhkcchpfdoaaLm10
import Derived.Test.YtcckhkcchpfdoaaAm17
import Derived.Below
import Derived.ChangeSlices
import Derived.Deep.Matrix
import Derived.OpenShut
import Derived.Carry
/-
  What functions of chapter 07 compute, outright 27: the law 'ShareTurned': turn by turn.
-/
set_option linter.unusedVariables false
set_option linter.unusedSimpArgs false
set_option maxRecDepth 10000
set_option maxHeartbeats 400000
namespace Go.Am.Share
open Go.Am.G

theorem pk_step {row o : List Int} {k : Nat} {a : Nat × Int} (h2 : k < o.length) (h3 : k < row.length) (h20 : Ok20 row) (H : PkOk row o k a) : PkOk row o (k + 1) (if o[k] = -1 ∧ a.2 < row[k] then (k, row[k]) else a) := by
  have hr := h20.at k h3
  have g1 : o.getD k 0 = o[k] := by simp [List.getD_eq_getElem?_getD, h2]
  have g2 : row.getD k 0 = row[k] := by simp [List.getD_eq_getElem?_getD, h3]
  by_cases hc : o[k] = -1 ∧ a.2 < row[k]
  · rw [if_pos hc]
    exact .inr ⟨hr.1, by omega, g2, by rw [g1]; exact hc.1⟩
  · rw [if_neg hc]
    rcases H with ⟨e1, e2⟩ | ⟨e1, e2, e3, e4⟩
    · refine .inl ⟨e1, fun j hj => ?_⟩
      by_cases hjk : j = k
      · subst hjk
        rw [g1]
        intro c
        exact hc ⟨c, by omega⟩
      · exact e2 j (by omega)
    · exact .inr ⟨e1, by omega, e3, e4⟩
theorem tt_inner (nl ex : Bool) (sz : Nat) (rs : List Row) (i : Nat) (hi : i < rs.length) (o : List Int) (ho : o.length = rs[i].l.length) (hl : o.length ≤ 6) (h20 : Ok20 rs[i].l) (hg : ∀ x ∈ o, -1 ≤ x) (V7 V11 V13 A B : LV) (b : Nat) (m : LMem) (hb : m[b]? = some ⟨ints o, true⟩) (n : Nat) : ∀ (k : Nat) (a : Nat × Int), k + n = o.length → PkOk rs[i].l o k a →
    exF LP law07_ShareTurned.L2 [(5, VL nl ex sz rs), (7, V7), (11, V11), (13, V13), (15, .int .i64 (i : Int)), (16, .int .i64 (bI a)), (80, A), (81, B), (91, SLo b o.length), (92, .int .i64 (o.length : Int)), (93, .int .i64 (k : Int))] m =
      some (.exit 6, [(5, VL nl ex sz rs), (7, V7), (11, V11), (13, V13), (15, .int .i64 (i : Int)), (16, .int .i64 (bI (pk (rs[i].l.drop k) (o.drop k) k a))), (80, A), (81, B)], m) := by
  have hnb : ¬ m.length ≤ b := by have := (List.getElem?_eq_some_iff.1 hb).1; omega
  have hbl : (ints o).length = o.length := by simp
  induction n with
  | zero =>
    intro k a hk H
    rw [law07_ShareTurned.L2_eq]
    simp only [law07_ShareTurned.B2, beqT, beqF, exF_seq, exF_region, exF_block, exF_cond, exF_ret, exF_exit, exF_skip, runL, wantL, stepL, evL, evC, LEnv.at, putL, loadFine, loadL, cellsAt, Trk.putNew, Trk.up, Trk.touch, Trk.gives, Trk.calm, Trk.hit, opdsOf, Trk.fresh, LEnv.keep, LEnv.ofFrom, List.map_cons, List.map_nil, nbeq, nble, nblt, ofAV, ofAVs, lenL, bin_add, bin_sub, bin_mul, bin_eql, bin_neq, bin_lss, bin_leq, bin_gtr, bin_geq, natL_nat, natL_zero, natL_one, natL_two, Nat.zero_mul, List.any_cons, List.any_nil, Bool.or_false, Bool.false_or, Bool.true_or, Bool.or_true, Bool.and_true, Bool.true_and, Bool.and_false, Bool.false_and, Bool.not_true, Bool.not_false, Nat.reduceBEq, Nat.reduceEqDiff, decide_true, decide_false, cond_true, cond_false, List.filter_nil, List.filter_cons, Nat.reduceAdd, Nat.reduceLeDiff, reduceCtorEq, List.length_nil, List.length_cons, Nat.mul_one, if_true, if_false, Bool.false_eq_true, eq_self, and_true, true_and, retL, resultsL, resAllL, resOfL, List.append_nil, List.nil_append, List.cons_append, true_or, or_true, false_or, or_false, false_and, and_false, not_true_eq_false, not_false_eq_true, ne_eq, unL, trim_nil, views_pures, LV.pures, LV.pure, freeze, Nat.reduceDiv, Int.reduceEq, Int.reduceLT, Int.reduceLE, Int.natCast_zero, LV.cells, allocL, List.getElem?_cons_zero, List.getElem?_cons_succ, storeL, spliceL, List.take_zero, List.take_succ_cons, List.drop_zero, List.drop_succ_cons, List.drop_nil, List.take_nil, Nat.le_refl, Nat.reduceMul, List.set_cons_zero, List.set_cons_succ, LV.scalar, List.all_cons, List.all_nil, Nat.lt_add_one, Nat.zero_lt_one, Nat.reduceLT, Nat.lt_irrefl, fillL, List.length_append, foldIntL, kind_beq, pures_int, solids_int, plains_int, unders_int, scalars_int, show ¬ ((k : Int) < (o.length : Int)) by omega]
    simp [List.drop_eq_nil_of_le (show o.length ≤ k by omega), List.drop_eq_nil_of_le (show rs[i].l.length ≤ k by omega), pk]
  | succ n ih =>
    intro k a hk H
    have h2 : k < o.length := by omega
    have h3 : k < rs[i].l.length := by omega
    have hstep := pk_step h2 h3 h20 H
    rw [law07_ShareTurned.L2_eq, List.drop_eq_getElem_cons h2, List.drop_eq_getElem_cons h3, pk]
    have hgk := hg _ (List.getElem_mem h2)
    have hrk := h20.at k h3
    have hws := wrap_succ (show k + 1 < 9223372036854775808 by omega)
    have e := int_at .i64 _ _ h2
    have e3' := int_at .i64 _ _ h3
    by_cases he : o[k] = -1
    · rw [he] at e
      rcases H with ⟨e1, e2⟩ | ⟨e1, e2, e3, e4⟩
      · have hq : a.2 < rs[i].l[k] := by omega
        have ih := ih (k + 1) (k, rs[i].l[k]) (by omega) (by rw [if_pos ⟨he, hq⟩] at hstep; exact hstep)
        have b1 : bI a = -1 := by simp [bI, e1]
        have b2 : bI (k, rs[i].l[k]) = (k : Int) := by simp [bI]; omega
        rw [b2] at ih
        rw [if_pos ⟨he, hq⟩]
        simp only [law07_ShareTurned.B2, law07_ShareTurned.B2.R0, beqT, beqF, exF_seq, exF_region, exF_block, exF_cond, exF_ret, exF_exit, exF_skip, runL, wantL, stepL, evL, evC, LEnv.at, putL, loadFine, loadL, cellsAt, Trk.putNew, Trk.up, Trk.touch, Trk.gives, Trk.calm, Trk.hit, opdsOf, Trk.fresh, LEnv.keep, LEnv.ofFrom, List.map_cons, List.map_nil, nbeq, nble, nblt, ofAV, ofAVs, lenL, bin_add, bin_sub, bin_mul, bin_eql, bin_neq, bin_lss, bin_leq, bin_gtr, bin_geq, natL_nat, natL_zero, natL_one, natL_two, Nat.zero_mul, List.any_cons, List.any_nil, Bool.or_false, Bool.false_or, Bool.true_or, Bool.or_true, Bool.and_true, Bool.true_and, Bool.and_false, Bool.false_and, Bool.not_true, Bool.not_false, Nat.reduceBEq, Nat.reduceEqDiff, decide_true, decide_false, cond_true, cond_false, List.filter_nil, List.filter_cons, Nat.reduceAdd, Nat.reduceLeDiff, reduceCtorEq, List.length_nil, List.length_cons, Nat.mul_one, if_true, if_false, Bool.false_eq_true, eq_self, and_true, true_and, retL, resultsL, resAllL, resOfL, List.append_nil, List.nil_append, List.cons_append, true_or, or_true, false_or, or_false, false_and, and_false, not_true_eq_false, not_false_eq_true, ne_eq, unL, trim_nil, views_pures, LV.pures, LV.pure, freeze, Nat.reduceDiv, Int.reduceEq, Int.reduceLT, Int.reduceLE, Int.natCast_zero, LV.cells, allocL, List.getElem?_cons_zero, List.getElem?_cons_succ, storeL, spliceL, List.take_zero, List.take_succ_cons, List.drop_zero, List.drop_succ_cons, List.drop_nil, List.take_nil, Nat.le_refl, Nat.reduceMul, List.set_cons_zero, List.set_cons_succ, LV.scalar, List.all_cons, List.all_nil, Nat.lt_add_one, Nat.zero_lt_one, Nat.reduceLT, Nat.lt_irrefl, fillL, List.length_append, foldIntL, kind_beq, pures_int, solids_int, plains_int, unders_int, scalars_int, show ((k : Int) < (o.length : Int)) by omega, h2, h3, hb, hnb, e, e3', Nat.zero_add, List.length_map, hq, b1, hws, ih, show ((-1 : Int) < 0) by omega]
      · have b1 : bI a = (a.1 : Int) := by simp [bI]; omega
        have b3 : ¬ ((a.1 : Int) < 0) := by omega
        have b4 : a.1 < rs[i].l.length := by omega
        have b5 : rs[i].l[a.1] = a.2 := by rw [← e3]; simp [List.getD_eq_getElem?_getD, b4]
        have e5 := int_at .i64 _ _ b4
        rw [b5] at e5
        by_cases hq : a.2 < rs[i].l[k]
        · have ih := ih (k + 1) (k, rs[i].l[k]) (by omega) (by rw [if_pos ⟨he, hq⟩] at hstep; exact hstep)
          have b2 : bI (k, rs[i].l[k]) = (k : Int) := by simp [bI]; omega
          rw [b2] at ih
          rw [if_pos ⟨he, hq⟩]
          simp only [law07_ShareTurned.B2, law07_ShareTurned.B2.R0, beqT, beqF, exF_seq, exF_region, exF_block, exF_cond, exF_ret, exF_exit, exF_skip, runL, wantL, stepL, evL, evC, LEnv.at, putL, loadFine, loadL, cellsAt, Trk.putNew, Trk.up, Trk.touch, Trk.gives, Trk.calm, Trk.hit, opdsOf, Trk.fresh, LEnv.keep, LEnv.ofFrom, List.map_cons, List.map_nil, nbeq, nble, nblt, ofAV, ofAVs, lenL, bin_add, bin_sub, bin_mul, bin_eql, bin_neq, bin_lss, bin_leq, bin_gtr, bin_geq, natL_nat, natL_zero, natL_one, natL_two, Nat.zero_mul, List.any_cons, List.any_nil, Bool.or_false, Bool.false_or, Bool.true_or, Bool.or_true, Bool.and_true, Bool.true_and, Bool.and_false, Bool.false_and, Bool.not_true, Bool.not_false, Nat.reduceBEq, Nat.reduceEqDiff, decide_true, decide_false, cond_true, cond_false, List.filter_nil, List.filter_cons, Nat.reduceAdd, Nat.reduceLeDiff, reduceCtorEq, List.length_nil, List.length_cons, Nat.mul_one, if_true, if_false, Bool.false_eq_true, eq_self, and_true, true_and, retL, resultsL, resAllL, resOfL, List.append_nil, List.nil_append, List.cons_append, true_or, or_true, false_or, or_false, false_and, and_false, not_true_eq_false, not_false_eq_true, ne_eq, unL, trim_nil, views_pures, LV.pures, LV.pure, freeze, Nat.reduceDiv, Int.reduceEq, Int.reduceLT, Int.reduceLE, Int.natCast_zero, LV.cells, allocL, List.getElem?_cons_zero, List.getElem?_cons_succ, storeL, spliceL, List.take_zero, List.take_succ_cons, List.drop_zero, List.drop_succ_cons, List.drop_nil, List.take_nil, Nat.le_refl, Nat.reduceMul, List.set_cons_zero, List.set_cons_succ, LV.scalar, List.all_cons, List.all_nil, Nat.lt_add_one, Nat.zero_lt_one, Nat.reduceLT, Nat.lt_irrefl, fillL, List.length_append, foldIntL, kind_beq, pures_int, solids_int, plains_int, unders_int, scalars_int, show ((k : Int) < (o.length : Int)) by omega, h2, h3, hi, b4, hb, hnb, row_at _ _ hi, e, e3', e5, Nat.zero_add, List.length_map, hq, b1, b3, hws, ih, show ((-1 : Int) < 0) by omega, gt_iff_lt]
        · have ih := ih (k + 1) a (by omega) (by rw [if_neg (fun c => hq c.2)] at hstep; exact hstep)
          rw [b1] at ih
          rw [if_neg (fun c => hq c.2)]
          simp only [law07_ShareTurned.B2, law07_ShareTurned.B2.R0, beqT, beqF, exF_seq, exF_region, exF_block, exF_cond, exF_ret, exF_exit, exF_skip, runL, wantL, stepL, evL, evC, LEnv.at, putL, loadFine, loadL, cellsAt, Trk.putNew, Trk.up, Trk.touch, Trk.gives, Trk.calm, Trk.hit, opdsOf, Trk.fresh, LEnv.keep, LEnv.ofFrom, List.map_cons, List.map_nil, nbeq, nble, nblt, ofAV, ofAVs, lenL, bin_add, bin_sub, bin_mul, bin_eql, bin_neq, bin_lss, bin_leq, bin_gtr, bin_geq, natL_nat, natL_zero, natL_one, natL_two, Nat.zero_mul, List.any_cons, List.any_nil, Bool.or_false, Bool.false_or, Bool.true_or, Bool.or_true, Bool.and_true, Bool.true_and, Bool.and_false, Bool.false_and, Bool.not_true, Bool.not_false, Nat.reduceBEq, Nat.reduceEqDiff, decide_true, decide_false, cond_true, cond_false, List.filter_nil, List.filter_cons, Nat.reduceAdd, Nat.reduceLeDiff, reduceCtorEq, List.length_nil, List.length_cons, Nat.mul_one, if_true, if_false, Bool.false_eq_true, eq_self, and_true, true_and, retL, resultsL, resAllL, resOfL, List.append_nil, List.nil_append, List.cons_append, true_or, or_true, false_or, or_false, false_and, and_false, not_true_eq_false, not_false_eq_true, ne_eq, unL, trim_nil, views_pures, LV.pures, LV.pure, freeze, Nat.reduceDiv, Int.reduceEq, Int.reduceLT, Int.reduceLE, Int.natCast_zero, LV.cells, allocL, List.getElem?_cons_zero, List.getElem?_cons_succ, storeL, spliceL, List.take_zero, List.take_succ_cons, List.drop_zero, List.drop_succ_cons, List.drop_nil, List.take_nil, Nat.le_refl, Nat.reduceMul, List.set_cons_zero, List.set_cons_succ, LV.scalar, List.all_cons, List.all_nil, Nat.lt_add_one, Nat.zero_lt_one, Nat.reduceLT, Nat.lt_irrefl, fillL, List.length_append, foldIntL, kind_beq, pures_int, solids_int, plains_int, unders_int, scalars_int, show ((k : Int) < (o.length : Int)) by omega, h2, h3, hi, b4, hb, hnb, row_at _ _ hi, e, e3', e5, Nat.zero_add, List.length_map, hq, b1, b3, hws, ih, show ((-1 : Int) < 0) by omega, gt_iff_lt]
    · have he2 : ¬ (o[k] < 0) := by omega
      have ih := ih (k + 1) a (by omega) (by rw [if_neg (fun c => he c.1)] at hstep; exact hstep)
      rw [if_neg (fun c => he c.1)]
      simp only [law07_ShareTurned.B2, law07_ShareTurned.B2.R0, beqT, beqF, exF_seq, exF_region, exF_block, exF_cond, exF_ret, exF_exit, exF_skip, runL, wantL, stepL, evL, evC, LEnv.at, putL, loadFine, loadL, cellsAt, Trk.putNew, Trk.up, Trk.touch, Trk.gives, Trk.calm, Trk.hit, opdsOf, Trk.fresh, LEnv.keep, LEnv.ofFrom, List.map_cons, List.map_nil, nbeq, nble, nblt, ofAV, ofAVs, lenL, bin_add, bin_sub, bin_mul, bin_eql, bin_neq, bin_lss, bin_leq, bin_gtr, bin_geq, natL_nat, natL_zero, natL_one, natL_two, Nat.zero_mul, List.any_cons, List.any_nil, Bool.or_false, Bool.false_or, Bool.true_or, Bool.or_true, Bool.and_true, Bool.true_and, Bool.and_false, Bool.false_and, Bool.not_true, Bool.not_false, Nat.reduceBEq, Nat.reduceEqDiff, decide_true, decide_false, cond_true, cond_false, List.filter_nil, List.filter_cons, Nat.reduceAdd, Nat.reduceLeDiff, reduceCtorEq, List.length_nil, List.length_cons, Nat.mul_one, if_true, if_false, Bool.false_eq_true, eq_self, and_true, true_and, retL, resultsL, resAllL, resOfL, List.append_nil, List.nil_append, List.cons_append, true_or, or_true, false_or, or_false, false_and, and_false, not_true_eq_false, not_false_eq_true, ne_eq, unL, trim_nil, views_pures, LV.pures, LV.pure, freeze, Nat.reduceDiv, Int.reduceEq, Int.reduceLT, Int.reduceLE, Int.natCast_zero, LV.cells, allocL, List.getElem?_cons_zero, List.getElem?_cons_succ, storeL, spliceL, List.take_zero, List.take_succ_cons, List.drop_zero, List.drop_succ_cons, List.drop_nil, List.take_nil, Nat.le_refl, Nat.reduceMul, List.set_cons_zero, List.set_cons_succ, LV.scalar, List.all_cons, List.all_nil, Nat.lt_add_one, Nat.zero_lt_one, Nat.reduceLT, Nat.lt_irrefl, fillL, List.length_append, foldIntL, kind_beq, pures_int, solids_int, plains_int, unders_int, scalars_int, show ((k : Int) < (o.length : Int)) by omega, h2, h3, hb, hnb, e, e3', Nat.zero_add, List.length_map, he2, hws, ih]
theorem tt_outer (nl ex : Bool) (sz : Nat) {rs : List Row} {L : Nat} (hpos : 0 < rs.length) (h4 : rs.length ≤ 4) (h6 : L ≤ 6) (hrl : ∀ i (h : i < rs.length), rs[i].l.length = L ∧ Ok20 rs[i].l) {ord : List Int} (O : OrdOk rs.length ord) {P : LMem} {ow : Bool} (h3 : P[3]? = some ⟨ints ord, ow⟩) (V11 : LV) (n : Nat) : ∀ (t : Nat) (o : List Int), t + n = L → o.length = L → (∀ x ∈ o, -1 ≤ x) → o.count (-1) = n →
    exF LP law07_ShareTurned.L3 [(5, VL nl ex sz rs), (7, .sl 3 0 rs.length rs.length 1 1 rs.length), (11, V11), (13, SLo P.length L), (80, .int .i64 (L : Int)), (81, .int .i64 (t : Int))] (P ++ [⟨ints o, true⟩]) =
      some (.exit 4, [(5, VL nl ex sz rs), (7, .sl 3 0 rs.length rs.length 1 1 rs.length), (11, V11), (13, SLo P.length L)], P ++ [⟨ints (trn (vals rs) ord n t o), true⟩]) := by
  have hol := O.len
  have h3l := (List.getElem?_eq_some_iff.1 h3).1
  induction n with
  | zero =>
    intro t o ht ho hg hc
    rw [law07_ShareTurned.L3_eq]
    simp only [law07_ShareTurned.B3, beqT, beqF, exF_seq, exF_region, exF_block, exF_cond, exF_ret, exF_exit, exF_skip, runL, wantL, stepL, evL, evC, LEnv.at, putL, loadFine, loadL, cellsAt, Trk.putNew, Trk.up, Trk.touch, Trk.gives, Trk.calm, Trk.hit, opdsOf, Trk.fresh, LEnv.keep, LEnv.ofFrom, List.map_cons, List.map_nil, nbeq, nble, nblt, ofAV, ofAVs, lenL, bin_add, bin_sub, bin_mul, bin_eql, bin_neq, bin_lss, bin_leq, bin_gtr, bin_geq, natL_nat, natL_zero, natL_one, natL_two, Nat.zero_mul, List.any_cons, List.any_nil, Bool.or_false, Bool.false_or, Bool.true_or, Bool.or_true, Bool.and_true, Bool.true_and, Bool.and_false, Bool.false_and, Bool.not_true, Bool.not_false, Nat.reduceBEq, Nat.reduceEqDiff, decide_true, decide_false, cond_true, cond_false, List.filter_nil, List.filter_cons, Nat.reduceAdd, Nat.reduceLeDiff, reduceCtorEq, List.length_nil, List.length_cons, Nat.mul_one, if_true, if_false, Bool.false_eq_true, eq_self, and_true, true_and, retL, resultsL, resAllL, resOfL, List.append_nil, List.nil_append, List.cons_append, true_or, or_true, false_or, or_false, false_and, and_false, not_true_eq_false, not_false_eq_true, ne_eq, unL, trim_nil, views_pures, LV.pures, LV.pure, freeze, Nat.reduceDiv, Int.reduceEq, Int.reduceLT, Int.reduceLE, Int.natCast_zero, LV.cells, allocL, List.getElem?_cons_zero, List.getElem?_cons_succ, storeL, spliceL, List.take_zero, List.take_succ_cons, List.drop_zero, List.drop_succ_cons, List.drop_nil, List.take_nil, Nat.le_refl, Nat.reduceMul, List.set_cons_zero, List.set_cons_succ, LV.scalar, List.all_cons, List.all_nil, Nat.lt_add_one, Nat.zero_lt_one, Nat.reduceLT, Nat.lt_irrefl, fillL, List.length_append, foldIntL, kind_beq, pures_int, solids_int, plains_int, unders_int, scalars_int, show ¬ ((t : Int) < (L : Int)) by omega, trn]
  | succ n ih =>
    intro t o ht ho hge hcn
    have ht2 : (t : Int) < (L : Int) := by omega
    have hm : t % ord.length < ord.length := Nat.mod_lt _ (by omega)
    have hmN : t % rs.length < rs.length := Nat.mod_lt _ hpos
    have hne : ((rs.length : Nat) : Int) ≠ 0 := by omega
    obtain ⟨w1, w2⟩ := O.rng _ hmN
    obtain ⟨w, hw⟩ := Int.eq_ofNat_of_zero_le w1
    have hw2 : w < rs.length := by omega
    rw [trn, hol, hw]
    have hmo : t % rs.length < ord.length := by omega
    have hwat : ord[t % rs.length] = (w : Int) := by rw [← hw]; simp [List.getD_eq_getElem?_getD, hmo]
    have eat := int_at .i64 _ _ hmo
    rw [hwat] at eat
    obtain ⟨r1, r2⟩ := hrl w hw2
    have gb : (P ++ [(⟨ints o, true⟩ : LBlk)])[P.length]? = some ⟨ints o, true⟩ := by simp
    have g3 : (P ++ [(⟨ints o, true⟩ : LBlk)])[3]? = some ⟨ints ord, ow⟩ := by rw [List.getElem?_append_left h3l]; exact h3
    have hin := tt_inner nl ex sz rs w hw2 o (by omega) (by omega) r2 hge (.sl 3 0 rs.length rs.length 1 1 rs.length) V11 (SLo P.length L) (.int .i64 (L : Int)) (.int .i64 (t : Int)) P.length _ gb o.length 0 (0, -1) (by omega) (.inl ⟨rfl, fun j hj => by omega⟩)
    have hok := pk_ok rs[w].l o (by omega) r2 o.length 0 (0, -1) (by omega) (.inl ⟨rfl, fun j hj => by omega⟩)
    obtain ⟨k1, k2, k3⟩ := pk_facts r1 r2 ho (by omega)
    unfold tstep
    rw [Int.toNat_natCast, vals_at rs w hw2]
    simp only [Int.natCast_zero, List.drop_zero] at hin hok
    have hfin : bI (pk rs[w].l o 0 (0, -1)) = ((pk rs[w].l o 0 (0, -1)).1 : Int) := by
      rcases hok with ⟨e1, e2⟩ | ⟨e1, e2, e3, e4⟩
      · exact absurd k2 (e2 _ (by omega))
      · unfold bI; rw [if_neg (by omega)]
    rw [hfin, show bI (0, -1) = -1 from rfl] at hin
    generalize (pk rs[w].l o 0 (0, -1)).1 = b at *
    have hb : b < o.length := by omega
    have hob : o[b] = -1 := by rw [← k2]; simp [List.getD_eq_getElem?_getD, hb]
    have hwn : ¬ (w : Int) = -1 := by omega
    have ih := ih (t + 1) (o.set b w) (by omega) (by simpa using ho) (by
      intro x hx
      rcases List.mem_or_eq_of_mem_set hx with c | c
      · exact hge x c
      · omega) (by
      rw [List.count_set hb, hob, hcn]
      simp [hwn])
    have gs : (P ++ [(⟨ints o, true⟩ : LBlk)]).set P.length ⟨ints (o.set b (w : Int)), true⟩ = P ++ [⟨ints (o.set b (w : Int)), true⟩] := by simp
    have hnb : ¬ (P ++ [(⟨ints o, true⟩ : LBlk)]).length ≤ P.length := by simp
    have hn3 : ¬ (P ++ [(⟨ints o, true⟩ : LBlk)]).length ≤ 3 := by simp; omega
    have hbL : b < L := by omega
    rw [ho] at hin
    rw [law07_ShareTurned.L3_eq, ← ih]
    have hbl : (ints o).length = L := by simp [ho]
    have lol : (ints ord).length = rs.length := by simp [hol]
    generalize hM1 : P ++ [(⟨ints o, true⟩ : LBlk)] = M1 at *
    generalize hM2 : P ++ [(⟨ints (o.set b (w : Int)), true⟩ : LBlk)] = M2 at *
    simp only [law07_ShareTurned.B3, law07_ShareTurned.B3.R0, beqT, beqF, exF_seq, exF_region, exF_block, exF_cond, exF_ret, exF_exit, exF_skip, runL, wantL, stepL, evL, evC, LEnv.at, putL, loadFine, loadL, cellsAt, Trk.putNew, Trk.up, Trk.touch, Trk.gives, Trk.calm, Trk.hit, opdsOf, Trk.fresh, LEnv.keep, LEnv.ofFrom, List.map_cons, List.map_nil, nbeq, nble, nblt, ofAV, ofAVs, lenL, bin_add, bin_sub, bin_mul, bin_eql, bin_neq, bin_lss, bin_leq, bin_gtr, bin_geq, natL_nat, natL_zero, natL_one, natL_two, Nat.zero_mul, List.any_cons, List.any_nil, Bool.or_false, Bool.false_or, Bool.true_or, Bool.or_true, Bool.and_true, Bool.true_and, Bool.and_false, Bool.false_and, Bool.not_true, Bool.not_false, Nat.reduceBEq, Nat.reduceEqDiff, decide_true, decide_false, cond_true, cond_false, List.filter_nil, List.filter_cons, Nat.reduceAdd, Nat.reduceLeDiff, reduceCtorEq, List.length_nil, List.length_cons, Nat.mul_one, if_true, if_false, Bool.false_eq_true, eq_self, and_true, true_and, retL, resultsL, resAllL, resOfL, List.append_nil, List.nil_append, List.cons_append, true_or, or_true, false_or, or_false, false_and, and_false, not_true_eq_false, not_false_eq_true, ne_eq, unL, trim_nil, views_pures, LV.pures, LV.pure, freeze, Nat.reduceDiv, Int.reduceEq, Int.reduceLT, Int.reduceLE, Int.natCast_zero, LV.cells, allocL, List.getElem?_cons_zero, List.getElem?_cons_succ, storeL, spliceL, List.take_zero, List.take_succ_cons, List.drop_zero, List.drop_succ_cons, List.drop_nil, List.take_nil, Nat.le_refl, Nat.reduceMul, List.set_cons_zero, List.set_cons_succ, LV.scalar, List.all_cons, List.all_nil, Nat.lt_add_one, Nat.zero_lt_one, Nat.reduceLT, Nat.lt_irrefl, fillL, List.length_append, foldIntL, kind_beq, pures_int, solids_int, plains_int, unders_int, scalars_int, ht2, g3, gb, hnb, hn3, lol, bin_rem _ _ _ hne, tmod_nat, hmN, hol, eat, hin, hb, hbL, ho, List.length_map, set_int _ _ _ _ hb, show b + 1 ≤ L by omega, gs, Nat.zero_add, wrap_succ (show t + 1 < 9223372036854775808 by omega)]
theorem tt_first (nl ex a1 a2 : Bool) (sz z1 : Nat) {rs : List Row} {o : List Int} (D : LOk rs o) {ord : List Int} (O : OrdOk rs.length ord) {m : LMem} {ow : Bool} (h3 : m[3]? = some ⟨ints ord, ow⟩) (hfirst : ∀ j, j < rs.length → ¬ 0 < eW (vals rs) o (ord.getD 0 0).toNat j) (d : Nat) : ∀ j, j + d = rs.length →
    exF LP law07_ShareTurned.L4 [(5, VL nl ex sz rs), (7, .sl 3 0 rs.length rs.length 1 1 rs.length), (11, IL a1 a2 z1 o), (143, .int .i64 (rs.length : Int)), (144, .int .i64 (j : Int))] m = some (.exit 8, [], m) := by
  have h4 := D.le4
  have hpos := D.pos
  have hn3 : ¬ m.length ≤ 3 := by have := (List.getElem?_eq_some_iff.1 h3).1; omega
  have hol : (ints ord).length = rs.length := by simp [O.len]
  obtain ⟨w1, w2⟩ := O.rng 0 hpos
  have h0 : 0 < ord.length := by rw [O.len]; exact hpos
  have e0 := int_at .i64 _ _ h0
  have e0' : ord[0] = ord.getD 0 0 := by simp [List.getD_eq_getElem?_getD, h0]
  rw [e0'] at e0
  obtain ⟨w, hw⟩ := Int.eq_ofNat_of_zero_le w1
  rw [hw] at e0
  rw [hw, Int.toNat_natCast] at hfirst
  induction d with
  | zero =>
    intro j hj
    rw [law07_ShareTurned.L4_eq]
    simp only [law07_ShareTurned.B4, beqT, beqF, exF_seq, exF_region, exF_block, exF_cond, exF_ret, exF_exit, exF_skip, runL, wantL, stepL, evL, evC, LEnv.at, putL, loadFine, loadL, cellsAt, Trk.putNew, Trk.up, Trk.touch, Trk.gives, Trk.calm, Trk.hit, opdsOf, Trk.fresh, LEnv.keep, LEnv.ofFrom, List.map_cons, List.map_nil, nbeq, nble, nblt, ofAV, ofAVs, lenL, bin_add, bin_sub, bin_mul, bin_eql, bin_neq, bin_lss, bin_leq, bin_gtr, bin_geq, natL_nat, natL_zero, natL_one, natL_two, Nat.zero_mul, List.any_cons, List.any_nil, Bool.or_false, Bool.false_or, Bool.true_or, Bool.or_true, Bool.and_true, Bool.true_and, Bool.and_false, Bool.false_and, Bool.not_true, Bool.not_false, Nat.reduceBEq, Nat.reduceEqDiff, decide_true, decide_false, cond_true, cond_false, List.filter_nil, List.filter_cons, Nat.reduceAdd, Nat.reduceLeDiff, reduceCtorEq, List.length_nil, List.length_cons, Nat.mul_one, if_true, if_false, Bool.false_eq_true, eq_self, and_true, true_and, retL, resultsL, resAllL, resOfL, List.append_nil, List.nil_append, List.cons_append, true_or, or_true, false_or, or_false, false_and, and_false, not_true_eq_false, not_false_eq_true, ne_eq, unL, trim_nil, views_pures, LV.pures, LV.pure, freeze, Nat.reduceDiv, Int.reduceEq, Int.reduceLT, Int.reduceLE, Int.natCast_zero, LV.cells, allocL, List.getElem?_cons_zero, List.getElem?_cons_succ, storeL, spliceL, List.take_zero, List.take_succ_cons, List.drop_zero, List.drop_succ_cons, List.drop_nil, List.take_nil, Nat.le_refl, Nat.reduceMul, List.set_cons_zero, List.set_cons_succ, LV.scalar, List.all_cons, List.all_nil, Nat.lt_add_one, Nat.zero_lt_one, Nat.reduceLT, Nat.lt_irrefl, fillL, List.length_append, foldIntL, kind_beq, pures_int, solids_int, plains_int, unders_int, scalars_int, show ¬ ((j : Int) < (rs.length : Int)) by omega]
  | succ d ih =>
    intro j hj
    have hjr : j < rs.length := by omega
    have ih := ih (j + 1) (by omega)
    have he := fun m => lenvies_c nl ex a1 a2 sz z1 D (i := w) (j := j) (by omega) hjr m
    rw [decide_eq_false (hfirst j hjr)] at he
    have hws := wrap_succ (show j + 1 < 9223372036854775808 by omega)
    rw [law07_ShareTurned.L4_eq, ← ih]
    generalize VL nl ex sz rs = VV at *
    generalize IL a1 a2 z1 o = lq at *
    simp only [law07_ShareTurned.B4, law07_ShareTurned.B4.R0, beqT, beqF, exF_seq, exF_region, exF_block, exF_cond, exF_ret, exF_exit, exF_skip, runL, wantL, stepL, evL, evC, LEnv.at, putL, loadFine, loadL, cellsAt, Trk.putNew, Trk.up, Trk.touch, Trk.gives, Trk.calm, Trk.hit, opdsOf, Trk.fresh, LEnv.keep, LEnv.ofFrom, List.map_cons, List.map_nil, nbeq, nble, nblt, ofAV, ofAVs, bin_add, bin_sub, bin_mul, bin_eql, bin_neq, bin_lss, bin_leq, bin_gtr, bin_geq, natL_nat, natL_zero, natL_one, natL_two, Nat.zero_mul, List.any_cons, List.any_nil, Bool.or_false, Bool.false_or, Bool.true_or, Bool.or_true, Bool.and_true, Bool.true_and, Bool.and_false, Bool.false_and, Bool.not_true, Bool.not_false, Nat.reduceBEq, Nat.reduceEqDiff, decide_true, decide_false, cond_true, cond_false, List.filter_nil, List.filter_cons, Nat.reduceAdd, Nat.reduceLeDiff, reduceCtorEq, List.length_nil, List.length_cons, Nat.mul_one, if_true, if_false, Bool.false_eq_true, eq_self, and_true, true_and, retL, resultsL, resAllL, resOfL, List.append_nil, List.nil_append, List.cons_append, true_or, or_true, false_or, or_false, false_and, and_false, not_true_eq_false, not_false_eq_true, ne_eq, unL, trim_nil, views_pures, LV.pures, LV.pure, freeze, Nat.reduceDiv, Int.reduceEq, Int.reduceLT, Int.reduceLE, Int.natCast_zero, LV.cells, allocL, List.getElem?_cons_zero, List.getElem?_cons_succ, storeL, spliceL, List.take_zero, List.take_succ_cons, List.drop_zero, List.drop_succ_cons, List.drop_nil, List.take_nil, Nat.le_refl, Nat.reduceMul, List.set_cons_zero, List.set_cons_succ, LV.scalar, List.all_cons, List.all_nil, Nat.lt_add_one, Nat.zero_lt_one, Nat.reduceLT, Nat.lt_irrefl, fillL, List.length_append, foldIntL, kind_beq, pures_int, solids_int, plains_int, unders_int, scalars_int, show ((j : Int) < (rs.length : Int)) by omega, h3, hn3, hpos, hol, e0, he, hws, Nat.zero_add, O.len]
end Go.Am.Share

/-
  What functions of chapter 07 compute, outright 28: the law 'ShareTurned', joined.
-/
set_option linter.unusedVariables false
set_option linter.unusedSimpArgs false
set_option maxRecDepth 10000
set_option maxHeartbeats 400000
namespace Go.Am.Share
open Go.Am.G

theorem turned_in (ns : List Int) (hl : ns.length = 26) (hb : ∀ n ∈ ns, 0 ≤ n ∧ n < 256) (os : List Int) (hol : os.length = 4) (hob : ∀ n ∈ os, 0 ≤ n ∧ n < 256) :
    clF LP n_law07_ShareTurned [.agg (ns.map (LV.int .u8)), .agg (os.map (LV.int .u8))] [] = some (.P, .bool true, []) := by
  obtain ⟨w, rfl, hwb⟩ := bytes_nat ns hb
  obtain ⟨cs, rfl, hcb⟩ := bytes_nat os hob
  rw [ci_ln] at hl hol
  show clF LP n_law07_ShareTurned [.agg (bys w), .agg (bys cs)] [] = some (.P, .bool true, [])
  obtain ⟨b0, c0, z0, hm⟩ := made_c w hl hwb 4 6 20 (by omega) (by omega) (by omega)
  have hr := Nat.mod_lt (w.getD 0 0) (show 0 < 4 by omega)
  have hn := Nat.mod_lt (w.getD 1 0) (show 0 < 6 + 1 by omega)
  have hbl : (bys w).length = 26 := by simp [hl]
  have hbl2 : (bys cs).length = 4 := by simp [hol]
  have htk : (bys w).take 26 = bys w := List.take_of_length_le (by omega)
  have hps : LV.pures (bys w) = true := pures_int _ _
  have hps2 : LV.pures (bys cs) = true := pures_int _ _
  generalize hn' : w.getD 1 0 % (6 + 1) = L at *
  generalize hr' : 1 + w.getD 0 0 % 4 = r at *
  have hr1 : 1 ≤ r := by omega
  have hr4 : r ≤ 4 := by omega
  have hrl := rsM_len w 20 L r
  have hvals := rsM_vals w 20 L r
  have hDn : ∀ o : List Int, o.length = L → (∀ x ∈ o, -1 ≤ x ∧ x < ((rsM w 20 L r).length : Int)) → LOk (rsM w 20 L r) o := fun o ho h => rsM_ok w 20 L r (by omega) (by omega) hr1 hr4 o ho (fun x hx => by have := h x hx; rw [hrl] at this; omega)
  have hdv : ∀ o : List Int, o.length = L → (∀ x ∈ o, 0 ≤ x ∧ x < ((rsM w 20 L r).length : Int)) → divE (vals (rsM w 20 L r)) o = 0 := fun o ho h => by rw [hvals]; exact divM w 20 L r (by omega) (by omega) hr1 hr4 o ho (fun x hx => by have := h x hx; rw [hrl] at this; exact this)
  have hck : chkV (vals (rsM w 20 L r)) = 0 := by rw [hvals]; exact chkM w 20 L r (by omega) (by omega) hr1 hr4
  have hV0 : ((vals (rsM w 20 L r)).getD 0 []).length = L := by
    rw [vals_at _ 0 (by omega), rsM_at]
    show (rowL _ 20 L).length = L
    rw [rowL_len]
  generalize hrs : rsM w 20 L r = rs at *
  have hpos : 0 < rs.length := by omega
  have hvl := vals_length rs
  have hnl : (nones L).length = L := by simp [nones]
  have D0 : LOk rs (nones L) := hDn _ hnl (fun x hx => by
    have : x = -1 := List.eq_of_mem_replicate hx
    omega)
  have hrow : ∀ i (h : i < rs.length), rs[i].l.length = L ∧ Ok20 rs[i].l := fun i hi => by
    have e := D0.len i hi
    rw [hnl] at e
    exact ⟨e.symm, D0.ok i hi⟩
  have hVl : ∀ i, i < (vals rs).length → ((vals rs).getD i []).length = L ∧ Ok20 ((vals rs).getD i []) := fun i hi => by
    have hi2 : i < rs.length := by omega
    rw [vals_at rs i hi2]
    exact hrow i hi2
  have hr10 : ∀ x ∈ rs, x.l.length < 1000000 := fun x hx => by
    obtain ⟨i, hi, e⟩ := List.getElem_of_mem hx
    have := (hrow i hi).1
    rw [← e]; omega
  -- the order
  have hperm := drawN_perm rs.length cs
  have hdl : (drawN rs.length cs).length = rs.length := by rw [hperm.length_eq]; simp
  have O : OrdOk rs.length (ci (drawN rs.length cs)) := ord_perm hperm
  have OV : OrdOk (vals rs).length (ci (drawN rs.length cs)) := by rw [hvl]; exact O
  have hond : (ci (drawN rs.length cs)).Nodup := by
    have hd : (drawN rs.length cs).Nodup := hperm.nodup_iff.2 List.nodup_range
    exact List.Pairwise.map _ (fun a b (h : a ≠ b) e => h (by omega)) hd
  have horng : ∀ x ∈ ci (drawN rs.length cs), 0 ≤ x ∧ x < (rs.length : Int) := fun x hx => by
    obtain ⟨y, hy, rfl⟩ := List.mem_map.1 hx
    have := (hperm.mem_iff).1 hy
    simp at this
    omega
  have l0 := tdraw_left (VL b0 c0 z0 rs) rs.length (by omega) rs.length 0 [⟨bys w, true⟩, ⟨bys cs, true⟩] (.lst true true 0 0 []) (by omega) rfl
  have hne : ci (List.range rs.length) ≠ [] := by
    intro c; have := congrArg List.length c; rw [ci_ln, List.length_range, List.length_nil] at this; omega
  have hgv : GV 2 (ci (List.range rs.length)) = .sl 2 0 rs.length rs.length 1 1 rs.length := by
    unfold GV
    rw [if_neg hne, ci_ln, List.length_range]
  have hgm : GM (ci (List.range rs.length)) = [⟨ints (ci (List.range rs.length)), true⟩] := by
    unfold GM
    rw [if_neg hne]
  rw [hgv, hgm] at l0
  have l0 : exF LP law07_ShareTurned.L0 [(3, .ptr 1 0 4), (5, VL b0 c0 z0 rs), (6, .lst true true 0 0 []), (7, .lst true true 0 0 []), (27, .int .i64 (rs.length : Int)), (28, .int .i64 0)] [⟨bys w, true⟩, ⟨bys cs, true⟩] = some (.exit 0, [(3, .ptr 1 0 4), (5, VL b0 c0 z0 rs), (6, .sl 2 0 rs.length rs.length 1 1 rs.length), (7, .lst true true 0 0 [])], [⟨bys w, true⟩, ⟨bys cs, true⟩, ⟨ints (ci (List.range rs.length)), true⟩]) := l0
  obtain ⟨Z', l1⟩ := tdraw_loop ⟨bys w, true⟩ (VL b0 c0 z0 rs) cs hol hcb rs.length (by omega) rs.length 0 (List.range rs.length) [] [] (by omega) (by simp) rfl rfl
  have hdn : drawF cs rs.length 0 (List.range rs.length) [] = drawN rs.length cs := rfl
  rw [hdn] at l1
  have H0 : Hold ([⟨bys w, true⟩, ⟨bys cs, true⟩, ⟨Z', true⟩] ++ GM (ci (drawN rs.length cs))) (GV 3 (ci (drawN rs.length cs))) (ci (drawN rs.length cs)) := Hold.gv [⟨bys w, true⟩, ⟨bys cs, true⟩, ⟨Z', true⟩] _
  have hone : ci (drawN rs.length cs) ≠ [] := by
    intro c; have := congrArg List.length c; rw [ci_ln, hdl, List.length_nil] at this; omega
  have hgv3 : GV 3 (ci (drawN rs.length cs)) = .sl 3 0 rs.length rs.length 1 1 rs.length := by
    unfold GV
    rw [if_neg hone, ci_ln, hdl]
  have l1 : exF LP law07_ShareTurned.L1 [(3, .ptr 1 0 4), (5, VL b0 c0 z0 rs), (6, .sl 2 0 rs.length rs.length 1 1 rs.length), (7, .lst true true 0 0 []), (37, .int .i64 (rs.length : Int)), (38, .int .i64 0)] [⟨bys w, true⟩, ⟨bys cs, true⟩, ⟨ints (ci (List.range rs.length)), true⟩] = some (.exit 2, [(5, VL b0 c0 z0 rs), (7, GV 3 (ci (drawN rs.length cs)))], [⟨bys w, true⟩, ⟨bys cs, true⟩, ⟨Z', true⟩] ++ GM (ci (drawN rs.length cs))) := by
    have e : ints (ci (List.range rs.length)) ++ [] = ints (ci (List.range rs.length)) := List.append_nil _
    rw [e] at l1
    exact l1
  rw [hgv3] at l1 H0
  have holen : (ci (drawN rs.length cs)).length = rs.length := by rw [ci_ln, hdl]
  generalize ci (drawN rs.length cs) = ord at *
  obtain ⟨M0, hM0⟩ : ∃ M, M = [⟨bys w, true⟩, ⟨bys cs, true⟩, (⟨Z', true⟩ : LBlk)] ++ GM ord := ⟨_, rfl⟩
  rw [← hM0] at l1 H0
  have hpv : (VL b0 c0 z0 rs).pure = true := by simp only [LV.pure, pures_row]
  obtain ⟨hin, hE1, hfirst⟩ := turns_ok (by omega) hVl OV
  have hte : turnE (vals rs) ord = 0 := by
    unfold turnE
    rw [if_neg (by simpa using hck), if_neg (by rw [holen, hvl]; simp), hvl]
    exact ordE_nodup _ _ _ horng (by simpa using hond)
  have htv : turnV (vals rs) ord = trn (vals rs) ord L 0 (nones L) := by unfold turnV; rw [if_pos hte, hV0]
  obtain ⟨m1, k1, H1, _, _⟩ := H0.call lp_share_Turns rfl (a := VL b0 c0 z0 rs) hpv (r := []) rfl (by simp) (fun b c z q1 q2 m => turnsP_c b0 c0 b c z0 z rs ord ⟨by omega, hr10, by omega, q1, q2⟩ m)
  rw [hte, htv] at k1
  have hlen : (trn (vals rs) ord L 0 (nones L)).length = L := by rw [trn_length, hnl]
  have k1 : clF LP n_share_Turns [VL b0 c0 z0 rs, .sl 3 0 rs.length rs.length 1 1 rs.length] M0 = some (.P, .tup [IL false true 1 (trn (vals rs) ord L 0 (nones L)), .int .i64 0], m1) := k1
  obtain ⟨ow, h3⟩ : ∃ ow, m1[3]? = some ⟨ints ord, ow⟩ := by
    rcases H1 with ⟨e1, e2⟩ | ⟨e1, b, ow, e2, e3⟩
    · cases e2
    · have : (3 : Nat) = b := by injection e2
      subst this
      exact ⟨ow, e3⟩
  have htt := tt_outer b0 c0 z0 hpos (by omega) (by omega) hrow O h3 (IL false true 1 (trn (vals rs) ord L 0 (nones L))) L 0 (nones L) (by omega) hnl (fun x hx => by
    have : x = -1 := List.eq_of_mem_replicate hx
    omega) (by simp [nones])
  rw [hvl] at hin hfirst
  have D : LOk rs (trn (vals rs) ord L 0 (nones L)) := hDn _ hlen (fun x hx => by have := hin x hx; omega)
  have hprop := fun m => proper_c b0 c0 false true z0 1 D hin m
  have hjud := fun m => judged_c b0 c0 false true z0 1 D m
  have hj0 : judF (vals rs) (trn (vals rs) ord L 0 (nones L)) ≠ 0 := by
    unfold judF stF
    rw [px_e1.2 hE1, if_neg (by simp)]
    split <;> omega
  have hrep := repeat_c L (by omega) m1
  have hrep : clF LP n_slices_Repeat_int_int [.lst false true 1 1 [.int .i64 (-1)], .int .i64 (L : Int)] m1 = some (.O, SLo m1.length L, m1 ++ [⟨ints (nones L), true⟩]) := hrep
  obtain ⟨y1, y2, hy⟩ : ∃ y1 y2 : Int, y1 = (((PX (vals rs) (trn (vals rs) ord L 0 (nones L))).headD (0, 0)).1 : Int) ∧ y2 = (((PX (vals rs) (trn (vals rs) ord L 0 (nones L))).headD (0, 0)).2 : Int) := ⟨_, _, rfl, rfl⟩
  rw [← hy.1, ← hy.2] at hjud
  have hfst := fun m h => tt_first b0 c0 false true z0 1 D O (m := m) (ow := ow) h (fun j hj => by
    have h1 := hfirst j hj
    obtain ⟨p0, p1⟩ := O.rng 0 hpos
    unfold eW
    rw [Int.toNat_of_nonneg p0]
    omega) rs.length 0 (by omega)
  generalize trn (vals rs) ord L 0 (nones L) = o at *
  obtain ⟨M2, hM2⟩ : ∃ M, M = m1 ++ [(⟨ints o, true⟩ : LBlk)] := ⟨_, rfl⟩
  rw [← hM2] at htt
  obtain ⟨M3, hM3⟩ : ∃ M, M = M2 ++ [(⟨[.int .i64 y1, .int .i64 y2], true⟩ : LBlk)] := ⟨_, rfl⟩
  have h3l := (List.getElem?_eq_some_iff.1 h3).1
  have g3 : M3[3]? = some ⟨ints ord, ow⟩ := by rw [hM3, hM2, List.append_assoc, List.getElem?_append_left h3l]; exact h3
  have gw : M3[m1.length]? = some ⟨ints o, true⟩ := by rw [hM3, hM2, List.append_assoc, List.getElem?_append_right (by omega)]; simp
  have hfst := hfst M3 g3
  have hsame : clF LP n_law07_same [IL false true 1 o, SLo m1.length L] M3 = some (.P, .bool true, M3) := by
    have hv : ∀ k, view (k + 3) M3 (SLo m1.length L) = some (IL false true 1 o, [m1.length]) := fun k => by
      have := view_sl k M3 m1.length 0 L L 0 o true gw hlen (by omega) L (Nat.le_refl _)
      rw [List.drop_zero, List.take_of_length_le (by omega)] at this
      rw [this]
      simp [nbeq]
    exact call_view lp_law07_same rfl (views_in M3 (IL false true 1 o) _ _ _ [] hv (by simp [LV.pure]) rfl rfl (by simp)) (by simp [LV.pures, LV.pure]) (same_refl false true false true 1 1 o (by rw [hlen]; omega) []) rfl
  have lVV : lenL (VL b0 c0 z0 rs) = some rs.length := rfl
  have lLL : lenL (IL false true 1 o) = some L := by show some o.length = _; rw [hlen]
  have lSL : lenL (SLo m1.length L) = some L := rfl
  have hpure : LV.pures [LV.agg (bys w), LV.agg (bys cs)] = true := by simp only [LV.pures, LV.pure, hps, hps2, Bool.and_true]
  have hm : ∀ m, clF LP n_law07_Heap_made [.agg (bys w), .int .i64 4, .int .i64 6, .int .i64 20] m = some (.P, VL b0 c0 z0 rs, m) := hm
  have s1 : (M2 ++ [(⟨[.int .i64 0, .int .i64 0], true⟩ : LBlk)])[M2.length]? = some ⟨[.int .i64 0, .int .i64 0], true⟩ := by simp
  have s2 : (M2 ++ [(⟨[.int .i64 0, .int .i64 0], true⟩ : LBlk)]).set M2.length ⟨[.int .i64 y1, .int .i64 y2], true⟩ = M3 := by rw [hM3]; simp
  have hdr : List.drop 2 [LV.int .i64 0, LV.int .i64 0] = [] := rfl
  have hof3 : ofAVs [.int .i64 0, .int .i64 0] = [.int .i64 0, .int .i64 0] := rfl
  have hca : ∀ cs, (LV.agg cs).cells = some cs := fun _ => rfl
  have hci : ∀ n : Int, (LV.int .i64 n).cells = some [.int .i64 n] := fun _ => rfl
  have hsi : ∀ n : Int, LV.scalar (.int .i64 n) = true := fun _ => rfl
  rw [Int.natCast_zero] at htt hfst
  refine call_P lp_law07_ShareTurned rfl hpure (m1 := M3) ?_ rfl []
  clear hy
  generalize judF (vals rs) o = J at *
  generalize VL b0 c0 z0 rs = VV at *
  generalize IL false true 1 o = lq at *
  generalize bys w = ww at *
  generalize bys cs = wc at *
  generalize ints (nones L) = no at *
  generalize ints (ci (List.range rs.length)) = rg at *
  generalize SLo m1.length L = sl at *
  generalize LV.sl 3 0 rs.length rs.length 1 1 rs.length = ol at *
  simp (maxSteps := 1000000) only [law07_ShareTurned, law07_ShareTurned.B, law07_ShareTurned.B.R0, law07_ShareTurned.B.R1, law07_ShareTurned.B.R2, law07_ShareTurned.B.R3, beqT, beqF, exF_seq, exF_region, exF_block, exF_cond, exF_ret, exF_exit, exF_skip, runL, wantL, stepL, evL, evC, LEnv.at, putL, loadFine, loadL, cellsAt, Trk.putNew, Trk.up, Trk.touch, Trk.gives, Trk.calm, Trk.hit, opdsOf, Trk.fresh, LEnv.keep, LEnv.ofFrom, List.map_cons, List.map_nil, nbeq, nble, nblt, ofAV, ofAVs, bin_add, bin_sub, bin_mul, bin_eql, bin_neq, bin_lss, bin_leq, bin_gtr, bin_geq, natL_nat, natL_zero, natL_one, natL_two, Nat.zero_mul, List.any_cons, List.any_nil, Bool.or_false, Bool.false_or, Bool.true_or, Bool.or_true, Bool.and_true, Bool.true_and, Bool.and_false, Bool.false_and, Bool.not_true, Bool.not_false, Nat.reduceBEq, Nat.reduceEqDiff, decide_true, decide_false, cond_true, cond_false, List.filter_nil, List.filter_cons, Nat.reduceAdd, Nat.reduceLeDiff, reduceCtorEq, List.length_nil, List.length_cons, Nat.mul_one, if_true, if_false, Bool.false_eq_true, eq_self, and_true, true_and, retL, resultsL, resAllL, resOfL, List.append_nil, List.nil_append, List.cons_append, true_or, or_true, false_or, or_false, false_and, and_false, not_true_eq_false, not_false_eq_true, ne_eq, unL, trim_nil, views_pures, LV.pures, LV.pure, freeze, Nat.reduceDiv, Int.reduceEq, Int.reduceLT, Int.reduceLE, Int.natCast_zero, allocL, List.getElem?_cons_zero, List.getElem?_cons_succ, storeL, spliceL, List.take_zero, List.take_succ_cons, List.drop_zero, List.drop_succ_cons, List.drop_nil, List.take_nil, Nat.le_refl, Nat.reduceMul, List.set_cons_zero, List.set_cons_succ, List.all_cons, List.all_nil, Nat.lt_add_one, Nat.zero_lt_one, Nat.reduceLT, Nat.lt_irrefl, fillL, List.length_append, foldIntL, kind_beq, pures_int, solids_int, plains_int, unders_int, scalars_int, hbl, hbl2, htk, hm, hca, hci, hsi, hof3, lVV, lLL, lSL, l0, l1, k1, hprop, hrep, htt, hjud, s1, s2, hdr, hj0, hsame, hfst, works_c]
end Go.Am.Share

/-
  THE JOIN: arguments that came in, as the list machine's lists; what the list machine's answer says of the model's call.
-/
set_option linter.unusedVariables false
namespace Go.Am
variable [Glo]
open Go.RowKit

def Placed (ρ : PM) (b : Nat) (ps : List Place) : Prop := ∀ (i : Nat) (p : Place), ps[i]? = some p → ρ (b + i) = some p
def Shows (s : Sit) (b : Nat) (bl : List (List AV)) : Prop := ∀ (i : Nat) (cs : List AV), bl[i]? = some cs → s.A (b + i) ∧ s.am.look (b + i) = some ⟨cs, false⟩

/-- An argument that reads as a value of the list machine. -/
def ArgOk (w : World) (v : Value) (lv : LV) : Prop :=
  ∃ (bl : Nat → List (List AV)) (ps : List Place) (av : Nat → AV), (∀ b, (bl b).length = ps.length) ∧
    (∀ (ρ : PM) (b : Nat), Placed ρ b ps → VR ρ (av b) v ∧ ∀ (i : Nat) (cs : List AV) (p : Place), (bl b)[i]? = some cs → ps[i]? = some p → CellsAt ρ w cs p) ∧
    (∀ (s : Sit) (b : Nat), Shows s b (bl b) → LR s lv (av b))
inductive ArgsOk (w : World) : List Value → List LV → Prop
  | nil : ArgsOk w [] []
  | cons {v : Value} {lv : LV} {vs : List Value} {lvs : List LV} (h : ArgOk w v lv) (hr : ArgsOk w vs lvs) : ArgsOk w (v :: vs) (lv :: lvs)

omit [Glo] in
theorem append_get {α : Type} (a b : List α) (i : Nat) (x : α) (h : (a ++ b)[i]? = some x) : (i < a.length ∧ a[i]? = some x) ∨ (a.length ≤ i ∧ b[i - a.length]? = some x) := by
  by_cases hi : i < a.length
  · rw [List.getElem?_append_left hi] at h; exact .inl ⟨hi, h⟩
  · rw [List.getElem?_append_right (by omega)] at h; exact .inr ⟨by omega, h⟩

omit [Glo] in
theorem args_all {w : World} : ∀ {vs : List Value} {lvs : List LV}, ArgsOk w vs lvs → ∃ (bl : Nat → List (List AV)) (ps : List Place) (avs : Nat → List AV), (∀ b, (bl b).length = ps.length) ∧
    (∀ (ρ : PM) (b : Nat), Placed ρ b ps → VRs ρ (avs b) vs ∧ ∀ (i : Nat) (cs : List AV) (p : Place), (bl b)[i]? = some cs → ps[i]? = some p → CellsAt ρ w cs p) ∧
    (∀ (s : Sit) (b : Nat), Shows s b (bl b) → LRs s lvs (avs b))
  | _, _, .nil => ⟨fun _ => [], [], fun _ => [], fun _ => rfl, fun ρ b _ => ⟨.nil, fun i cs p h => by simp at h⟩, fun s b _ => .nil⟩
  | _, _, .cons h hr => by
    obtain ⟨bl1, ps1, av1, a1, a2, a3⟩ := h
    obtain ⟨bl2, ps2, av2, b1, b2, b3⟩ := args_all hr
    refine ⟨fun b => bl1 b ++ bl2 (b + ps1.length), ps1 ++ ps2, fun b => av1 b :: av2 (b + ps1.length), fun b => by simp [a1, b1], fun ρ b hp => ?_, fun s b hs => ?_⟩
    · have hp1 : Placed ρ b ps1 := fun i p h => hp i p (by rw [List.getElem?_append_left (List.getElem?_eq_some_iff.1 h).1]; exact h)
      have hp2 : Placed ρ (b + ps1.length) ps2 := fun i p h => by
        have := hp (ps1.length + i) p (by rw [List.getElem?_append_right (by omega)]; simpa using h)
        rw [Nat.add_assoc]; exact this
      obtain ⟨c1, c2⟩ := a2 ρ b hp1
      obtain ⟨d1, d2⟩ := b2 ρ _ hp2
      refine ⟨.cons c1 d1, fun i cs p hcs hpp => ?_⟩
      rcases append_get _ _ _ _ hcs with ⟨e1, e2⟩ | ⟨e1, e2⟩
      · rw [a1] at e1
        rw [List.getElem?_append_left e1] at hpp
        exact c2 i cs p e2 hpp
      · rw [a1] at e1 e2
        rw [List.getElem?_append_right e1] at hpp
        exact d2 _ cs p e2 hpp
    · refine .cons (a3 s b fun i cs h => hs i cs (by rw [List.getElem?_append_left (List.getElem?_eq_some_iff.1 h).1]; exact h)) (b3 s _ fun i cs h => ?_)
      have := hs (ps1.length + i) cs (by rw [List.getElem?_append_right (by rw [a1]; omega)]; rw [a1]; simpa using h)
      rw [Nat.add_assoc]; exact this

/-- Where the package-level variables lie. -/
def gPlaces (n : Nat) : List Place := (List.range n).map fun g => ⟨g, 0, 0⟩
omit [Glo] in
theorem gPlaces_get {n g : Nat} {p : Place} (h : (gPlaces n)[g]? = some p) : p = ⟨g, 0, 0⟩ := by
  unfold gPlaces at h
  rw [List.getElem?_map] at h
  obtain ⟨x, hx, rfl⟩ := Option.map_eq_some_iff.1 h
  have hg := (List.getElem?_eq_some_iff.1 hx).1
  simp at hg
  rw [List.getElem?_range hg] at hx
  cases hx; rfl

/-- WHAT A LAW's WALK ASKS OF THE LIST MACHINE. -/
theorem law_glob {P : Program} {C : Prog} {LP : LProg} (hC : ProgOk C P) (hmix : P.follows .mixedOrders = true) (hL : ProgL LP C) {f : Nat} {lvs : List LV} {md : Mode} {m' : LMem} (h : clF LP f lvs [] = some (md, .bool true, m'))
    {w : World} {cargs : Array Value} (ha : ArgsOk w cargs.toList lvs) (gb : List (List AV)) (hgb : gb.length = P.globals.size) (hT : ∀ g l, Glo.tab g = some l → gb[g]? = some l) (hcell : ∀ (ρ : PM) (g : Nat) (cs : List AV), gb[g]? = some cs → CellsAt ρ w cs ⟨g, 0, 0⟩) :
    Calls P f cargs w fun e w' => e = .returned (.bool true) ∧ Below w.heap.size w w' := by
  obtain ⟨bl, ps, avs, h1, h2, h3⟩ := args_all ha
  obtain ⟨n, hn⟩ := clF_some.1 h
  generalize hN : gb.length = N at hgb
  generalize hall : gb ++ bl N = all
  have hget : ∀ (i : Nat) (cs : List AV), (bl N)[i]? = some cs → all[N + i]? = some cs := fun i cs hi => by
    rw [← hall, List.getElem?_append_right (by omega), hN, Nat.add_sub_cancel_left]; exact hi
  have hs : Shows ⟨[], memOf all, fun _ => 0, fun b => b < all.length⟩ N (bl N) := fun i cs hi =>
    ⟨(List.getElem?_eq_some_iff.1 (hget i cs hi)).1, by show (memOf all).look (N + i) = _; rw [memOf_look, hget i cs hi]; rfl⟩
  have hrel : Rel2 ⟨[], memOf all, fun _ => 0, fun b => b < all.length⟩ := by
    refine ⟨fun i b hb => by simp at hb, fun i j b b' hb => by simp at hb, fun b hb => ?_, fun b ab hb => ?_, fun g l hg => ?_⟩
    · have hb : b < all.length := hb
      exact ⟨⟨all[b], false⟩, by show (memOf all).look b = _; rw [memOf_look, List.getElem?_eq_getElem hb]; rfl⟩
    · have hb : (memOf all).look b = some ab := hb
      show b < (memOf all).next
      rw [memOf_next]
      rw [memOf_look] at hb
      obtain ⟨x, hx, _⟩ := Option.map_eq_some_iff.1 hb
      exact (List.getElem?_eq_some_iff.1 hx).1
    · have e : all[g]? = some l := by
        have := hT g l hg
        rw [← hall, List.getElem?_append_left (List.getElem?_eq_some_iff.1 this).1]; exact this
      exact ⟨(List.getElem?_eq_some_iff.1 e).1, by show (memOf all).look g = _; rw [memOf_look, e]; rfl⟩
  obtain ⟨av, am', h4, t, _, _, _, _, h5, _⟩ := callL_sound hL n f lvs [] md (.bool true) m' hn _ (avs N) rfl hrel (h3 _ N hs)
  cases h5
  generalize hpl : gPlaces N ++ ps = pl
  have hgl : (gPlaces N).length = N := by simp [gPlaces]
  have hplaced : Placed (placesOf pl) N ps := fun i p hp => by
    show pl[N + i]? = some p
    rw [← hpl, List.getElem?_append_right (by omega), hgl, Nat.add_sub_cancel_left]; exact hp
  obtain ⟨h6, h7⟩ := h2 (placesOf pl) N hplaced
  refine law_calls hC hmix (l := all) (ps := pl) h4 (by rw [← hall, ← hpl, List.length_append, List.length_append, h1, hgl, hN]) (fun i cs p hcs hp => ?_) h6 fun g hg => ?_
  · rw [← hall] at hcs
    rw [← hpl] at hp
    rcases append_get _ _ _ _ hcs with ⟨e1, e2⟩ | ⟨e1, e2⟩
    · rw [List.getElem?_append_left (by omega)] at hp
      rw [gPlaces_get hp]
      exact hcell _ i cs e2
    · rw [List.getElem?_append_right (by omega), hgl] at hp
      rw [hN] at e2
      exact h7 _ cs p e2 hp
  · have hg : g < N := by omega
    refine ⟨⟨g, 0, 0⟩, ?_, rfl, rfl⟩
    show pl[g]? = _
    rw [← hpl, List.getElem?_append_left (by omega)]
    simp [gPlaces, hg]

theorem law_list {P : Program} {C : Prog} {LP : LProg} (hC : ProgOk C P) (hmix : P.follows .mixedOrders = true) (hL : ProgL LP C) {f : Nat} {lvs : List LV} {md : Mode} {m' : LMem} (h : clF LP f lvs [] = some (md, .bool true, m')) (hG : P.globals.size = 0) (hT : ∀ g, Glo.tab g = none)
    {w : World} {cargs : Array Value} (ha : ArgsOk w cargs.toList lvs) : Calls P f cargs w fun e w' => e = .returned (.bool true) ∧ Below w.heap.size w w' :=
  law_glob hC hmix hL h ha [] (by simp [hG]) (fun g l hg => by rw [hT g] at hg; cases hg) (fun ρ g cs hg => by simp at hg)
end Go.Am

/-
  THE JOIN, 2: lists of numbers, and lists of lists, that came in.
-/
set_option linter.unusedVariables false
namespace Go.Am
variable [Glo]
open Go.ChangeShapes Go.RowKit Go.Deep

end Go.Am

/-
  THE JOIN, 3: arguments read behind the call as before it.
-/
set_option linter.unusedVariables false
namespace Go.Am
variable [Glo]
open Go.RowKit
omit [Glo] in
theorem trodAll_below {H : Type} {enc : TypeId × Value → H} {P : Program} {W W' : World} (hl : laidOutB P = true) (hb : Below W.heap.size W W') : ∀ {ts : List TypeId} {vs : List Value} {ds : List (DataW H)} {ps : List MemPlace}, (ts.all fun t => P.readableRec t && decide (t < P.types.size)) = true →
    DataW.TrodAll enc P W 0 (fun _ => true) true ts vs ds ps → (∀ x ∈ ps, x.block < W.heap.size) → DataW.TrodAll enc P W' 0 (fun b => decide (b < W.heap.size)) true ts vs ds ps
  | [], [], [], _, _, h, _ => h
  | t :: ts, v :: vs, d :: ds, ps, hr, ⟨p, q, h1, h2, e⟩, hlt => by
    simp only [List.all_cons, Bool.and_eq_true, decide_eq_true_eq] at hr
    subst e
    exact ⟨p, q, Below.trod hl hr.1.1 hr.1.2 h1 hb (fun x hx => hlt x (List.mem_append_left _ hx)), trodAll_below hl hb hr.2 h2 (fun x hx => hlt x (List.mem_append_right _ hx)), rfl⟩
end Go.Am

/-
  THE JOIN, 4: structs of bytes that came in.
-/
set_option linter.unusedVariables false
namespace Go.Am
variable [Glo]
open Go.RowKit

/-! ### Types that hold bytes alone -/
def sumPc : Nat → List (Nat × Nat) → Option Nat
  | off, [] => some off
  | off, (o, k) :: r => cond (Nat.beq o off) (sumPc (off + k) r) none
def pcsF (P : Program) (g : TypeId → Option Nat) : List Field → Option (List (Nat × Nat))
  | [] => some []
  | f :: r => match g f.type with
    | some k => match pcsF P g r with
      | some l => cond (Nat.beq (P.cellsOf f.type) k) (some ((f.offset, k) :: l)) none
      | none => none
    | none => none
/-- How many bytes. -/
def u8T (P : Program) : Nat → TypeId → Option Nat
  | 0, _ => none
  | n + 1, t => match P.underlying t with
    | some (.int .u8) => some 1
    | some (.array m e) => match u8T P n e with
      | some k => cond (Nat.beq (P.cellsOf e) k && Nat.beq (P.cellsOf t) (m * k)) (some (m * k)) none
      | none => none
    | some (.struct fs) => match pcsF P (u8T P n) fs.toList with
      | some l => match sumPc 0 l with
        | some k => cond (Nat.beq (P.cellsOf t) k) (some k) none
        | none => none
      | none => none
    | _ => none
def U8s (cs : List Value) : Prop := ∀ (i : Nat) (v : Value), cs[i]? = some v → ∃ n : Int, v = .int .u8 n ∧ (Lit.int .u8 n).wf = true

omit [Glo] in
theorem sumPc_in : ∀ (l : List (Nat × Nat)) (off tot : Nat), sumPc off l = some tot → ∀ i, off ≤ i → i < tot → ∃ p ∈ l, p.1 ≤ i ∧ i < p.1 + p.2
  | [], off, tot, h, i, h1, h2 => by simp only [sumPc, Option.some.injEq] at h; omega
  | (o, k) :: r, off, tot, h, i, h1, h2 => by
    simp only [sumPc] at h
    cases c : Nat.beq o off <;> rw [c] at h
    · cases h
    · have e : o = off := by simpa using c
      subst e
      by_cases hi : i < o + k
      · exact ⟨(o, k), by simp, h1, hi⟩
      · obtain ⟨p, hp, h3⟩ := sumPc_in r _ _ h i (by omega) h2
        exact ⟨p, by simp [hp], h3⟩
omit [Glo] in
theorem pcsF_in {P : Program} {g : TypeId → Option Nat} : ∀ (fs : List Field) (l : List (Nat × Nat)), pcsF P g fs = some l → ∀ p ∈ l, ∃ (i : Nat) (f : Field), fs[i]? = some f ∧ f.offset = p.1 ∧ g f.type = some p.2 ∧ P.cellsOf f.type = p.2
  | [], l, h, p, hp => by simp only [pcsF, Option.some.injEq] at h; subst h; cases hp
  | f :: r, l, h, p, hp => by
    simp only [pcsF] at h
    split at h
    · rename_i k hk
      split at h
      · rename_i l' hl'
        cases c : Nat.beq (P.cellsOf f.type) k <;> rw [c] at h
        · cases h
        · simp only [cond_true, Option.some.injEq] at h
          subst h
          rcases List.mem_cons.1 hp with rfl | hp
          · exact ⟨0, f, rfl, rfl, hk, by simpa using c⟩
          · obtain ⟨i, f', h1, h2⟩ := pcsF_in r l' hl' p hp
            exact ⟨i + 1, f', by simpa using h1, h2⟩
      · cases h
    · cases h

section
variable {H : Type} {enc : TypeId × Value → H} {P : Program} {w : World} {base : Nat} {sp : Nat → Bool} {held : Bool}
omit [Glo] in
theorem u8T_ok : ∀ (n : Nat) (t : TypeId) (fuel : Nat) (cs : List Value) (x : DataW H × List MemPlace) (k : Nat), u8T P n t = some k → DataW.trod enc P w base sp held fuel t cs = some x → U8s cs ∧ cs.length = k
  | 0, _, _, _, _, _, h, _ => by cases h
  | n + 1, t, fuel, cs, x, k, h, hx => by
    simp only [u8T] at h
    split at h
    · rename_i ht
      cases h
      obtain ⟨a, rfl, _, hw⟩ := DataW.trod_int ht hx
      refine ⟨fun i v hv => ?_, rfl⟩
      match i with
      | 0 => simp at hv; subst hv; exact ⟨a, rfl, hw⟩
      | i + 1 => simp at hv
    · rename_i m e ht
      split at h
      · rename_i k' hk'
        cases c : (Nat.beq (P.cellsOf e) k' && Nat.beq (P.cellsOf t) (m * k')) <;> rw [c] at h
        · cases h
        · simp only [cond_true, Option.some.injEq] at h
          subst h
          simp only [Bool.and_eq_true] at c
          have c1 : P.cellsOf e = k' := by simpa using c.1
          have c2 : P.cellsOf t = m * k' := by simpa using c.2
          obtain ⟨xs, m', _, _, hl, hxl, hf⟩ := DataW.trod_array ht hx
          rw [c2] at hl
          refine ⟨fun i v hv => ?_, hl⟩
          have hi : i < m * k' := by rw [← hl]; exact (List.getElem?_eq_some_iff.1 hv).1
          have hk0 : 0 < k' := by
            rcases Nat.eq_zero_or_pos k' with e0 | e0
            · rw [e0] at hi; simp at hi
            · exact e0
          have h1 : i / k' < m := (Nat.div_lt_iff_lt_mul hk0).2 hi
          have h2 : i % k' < k' := Nat.mod_lt _ hk0
          have h3 : (i / k') * k' + i % k' = i := by rw [Nat.mul_comm]; exact Nat.div_add_mod i k'
          have h4 := hf (i / k') h1
          rw [c1] at h4
          obtain ⟨y, hy⟩ : ∃ y, xs[i / k']? = some y := ⟨xs[i / k']'(by omega), List.getElem?_eq_getElem (by omega)⟩
          rw [hy] at h4
          obtain ⟨h5, _⟩ := u8T_ok n e m' _ y k' hk' h4
          refine h5 (i % k') v ?_
          rw [List.getElem?_take, if_pos h2, List.getElem?_drop, h3]
          exact hv
      · cases h
    · rename_i fs ht
      split at h
      · rename_i l hl'
        split at h
        · rename_i k' hk'
          cases c : Nat.beq (P.cellsOf t) k' <;> rw [c] at h
          · cases h
          · simp only [cond_true, Option.some.injEq] at h
            subst h
            have c2 : P.cellsOf t = k' := by simpa using c
            obtain ⟨xs, m', _, _, hl, hxl, hf⟩ := DataW.trod_struct ht hx
            rw [c2] at hl
            refine ⟨fun i v hv => ?_, hl⟩
            have hi : i < k' := by rw [← hl]; exact (List.getElem?_eq_some_iff.1 hv).1
            obtain ⟨p, hp, p1, p2⟩ := sumPc_in l 0 k' hk' i (Nat.zero_le _) hi
            obtain ⟨j, f, f1, f2, f3, f4⟩ := pcsF_in _ _ hl' p hp
            have f1' : fs[j]? = some f := by simpa using f1
            have hj : j < fs.size := (Array.getElem?_eq_some_iff.1 f1').1
            have h4 := hf j f f1'
            rw [f4, f2] at h4
            obtain ⟨y, hy⟩ : ∃ y, xs[j]? = some y := ⟨xs[j]'(by omega), List.getElem?_eq_getElem (by omega)⟩
            rw [hy] at h4
            obtain ⟨h5, _⟩ := u8T_ok n f.type m' _ y p.2 f3 h4
            refine h5 (i - p.1) v ?_
            rw [List.getElem?_take, if_pos (by omega), List.getElem?_drop, show p.1 + (i - p.1) = i by omega]
            exact hv
        · cases h
      · cases h
    · cases h

omit [Glo] in
theorem u8s_list : ∀ {cs : List Value}, U8s cs → ∃ ns : List Int, cs = ns.map (Value.int .u8) ∧ ∀ n ∈ ns, 0 ≤ n ∧ n < 256
  | [], _ => ⟨[], rfl, by simp⟩
  | v :: r, h => by
    obtain ⟨n, rfl, hw⟩ := h 0 v rfl
    obtain ⟨ns, e, hb⟩ := u8s_list (cs := r) fun i v hv => h (i + 1) v (by simpa using hv)
    refine ⟨n :: ns, by rw [e]; rfl, ?_⟩
    intro x hx
    rcases List.mem_cons.1 hx with rfl | hx
    · have := bounds_u8 hw; omega
    · exact hb x hx

omit [Glo] in
theorem argOk_bytes (w : World) (ns : List Int) : ArgOk w (.agg (ns.map (Value.int .u8)).toArray) (.agg (ns.map (LV.int .u8))) := by
  refine ⟨fun _ => [], [], fun _ => .agg (ns.map (AV.int .u8)), fun _ => rfl, fun ρ b _ => ⟨.agg ?_, fun i cs p h => by simp at h⟩, fun s b _ => .agg ?_⟩
  · show VRs ρ _ (ns.map (Value.int .u8)).toArray.toList
    simp only []
    induction ns with
    | nil => exact .nil
    | cons n r ih => exact .cons (.int _ _) ih
  · exact LRs.map _ fun x _ => .int _ _

omit [Glo] in
/-- A struct of bytes among the arguments. -/
theorem argOk_struct {r : Reach} {b0 n k : Nat} {t : TypeId} {fs : Array Field} {v : Value} {d : DataW H} {ps : List MemPlace} (ht : P.underlying t = some (.struct fs)) (hk : u8T P n t = some k)
    (hval : Value.okWide P w r b0 t v) (hd : DataW.Trod enc P w base sp held t v d ps) :
    ∃ ns : List Int, ns.length = k ∧ (∀ n ∈ ns, 0 ≤ n ∧ n < 256) ∧ ArgOk w v (.agg (ns.map (LV.int .u8))) := by
  obtain ⟨cs, rfl, _⟩ := Go.WideShapes.okWide_struct ht hval
  obtain ⟨fuel, hf⟩ := hd
  obtain ⟨h1, h2⟩ := u8T_ok n t fuel _ _ k hk hf
  obtain ⟨ns, e, hb⟩ := u8s_list h1
  have e' : cs = (ns.map (Value.int .u8)).toArray := by
    apply Array.ext'
    simpa [Value.cells] using e
  subst e'
  refine ⟨ns, ?_, hb, argOk_bytes w ns⟩
  simpa [Value.cells] using h2
omit [Glo] in
/-- An array of bytes among the arguments. -/
theorem argOk_array {r : Reach} {b0 n k m : Nat} {t e : TypeId} {v : Value} {d : DataW H} {ps : List MemPlace} (ht : P.underlying t = some (.array m e)) (hk : u8T P n t = some k)
    (hval : Value.okWide P w r b0 t v) (hd : DataW.Trod enc P w base sp held t v d ps) :
    ∃ ns : List Int, ns.length = k ∧ (∀ n ∈ ns, 0 ≤ n ∧ n < 256) ∧ ArgOk w v (.agg (ns.map (LV.int .u8))) := by
  obtain ⟨cs, rfl, _⟩ : ∃ cs, v = .agg cs ∧ cs.size = P.cellsOf t := by
    simp only [Value.okWide, ht] at hval
    obtain ⟨cs, h1, h2, _⟩ := hval
    exact ⟨cs, h1, h2⟩
  obtain ⟨fuel, hf⟩ := hd
  obtain ⟨h1, h2⟩ := u8T_ok n t fuel _ _ k hk hf
  obtain ⟨ns, e, hb⟩ := u8s_list h1
  have e' : cs = (ns.map (Value.int .u8)).toArray := by
    apply Array.ext'
    simpa [Value.cells] using e
  subst e'
  refine ⟨ns, ?_, hb, argOk_bytes w ns⟩
  simpa [Value.cells] using h2
end
end Go.Am


