import Derived.Test.YtcckhkcchpfdoaaShareD16
import Derived.Test.YtcckhkcchpfdoaaShareC12
import Derived.Test.YtcckhkcchpfdoaaLm10
import Derived.Test.YtcckhkcchpfdoaaAm17
import Derived.Below
import Derived.ChangeSlices
import Derived.Deep.Matrix
import Derived.OpenShut
import Derived.Carry
/-
  What functions of chapter 07 compute, outright 17: the law 'ShareMost': one division.
-/
set_option linter.unusedVariables false
set_option linter.unusedSimpArgs false
set_option maxRecDepth 10000
set_option maxHeartbeats 400000
namespace Go.Am.Share
open Go.Am.G

theorem mostP_f (nl ex : Bool) (sz : Nat) (rs : List Row) (hl : rs.length < 1000000) (hr : ∀ r ∈ rs, r.l.length < 1000000) : ∃ a b c, (mostV (vals rs) = [] ∨ c = 1) ∧ (a = true → mostV (vals rs) = []) ∧ ∀ m, clF LP n_share_Most [VL nl ex sz rs] m = some (.P, .tup [IL a b c (mostV (vals rs)), .int .i64 (chkV (vals rs))], m) := by
  have hc := fun m => check_c nl ex sz rs hl hr m
  unfold mostV
  by_cases h1 : chkV (vals rs) = 0
  · have D := vok_of h1
    rw [if_pos h1, vals_length]
    have hm := allD_mem rs.length ((vals rs).getD 0 []).length
    obtain ⟨m', b, r, n, hA, e1, e2, e3⟩ := each_most nl ex sz D
    rw [hA] at hm ⊢
    have hq := mostF_length (vals rs) ((vals rs).getD 0 []).length r b (fun q hq => (hm q (by simp [hq])).1) (hm b (by simp)).1
    show ∃ a b' c, (mostF (vals rs) b r = [] ∨ c = 1) ∧ (a = true → mostF (vals rs) b r = []) ∧ ∀ m, clF LP n_share_Most [VL nl ex sz rs] m = some (.P, .tup [IL a b' c (mostF (vals rs) b r), .int .i64 (chkV (vals rs))], m)
    rw [h1]
    generalize mostF (vals rs) b r = q at *
    generalize ((vals rs).getD 0 []).length = L at *
    by_cases h : L = 0
    · subst h
      obtain rfl : q = [] := List.length_eq_zero_iff.1 hq
      simp only [CV, if_true] at e2
      refine ⟨false, true, 0, .inl rfl, fun _ => rfl, fun m => call_P lp_share_Most rfl (by simp [LV.pures, LV.pure]) (m1 := m') ?_ (by simp [LV.pures, LV.pure]) m⟩
      simp only [share_Most, share_Most.B, beqT, beqF, exF_seq, exF_region, exF_block, exF_cond, exF_ret, exF_exit, exF_skip, runL, wantL, stepL, evL, evC, LEnv.at, putL, loadFine, loadL, cellsAt, Trk.putNew, Trk.up, Trk.touch, Trk.gives, Trk.calm, Trk.hit, opdsOf, Trk.fresh, LEnv.keep, LEnv.ofFrom, List.map_cons, List.map_nil, nbeq, nble, nblt, ofAV, ofAVs, lenL, bin_add, bin_sub, bin_mul, bin_eql, bin_neq, bin_lss, bin_leq, bin_gtr, bin_geq, natL_nat, natL_zero, natL_one, natL_two, Nat.zero_mul, List.any_cons, List.any_nil, Bool.or_false, Bool.false_or, Bool.true_or, Bool.or_true, Bool.and_true, Bool.true_and, Bool.and_false, Bool.false_and, Bool.not_true, Bool.not_false, Nat.reduceBEq, Nat.reduceEqDiff, decide_true, decide_false, cond_true, cond_false, List.filter_nil, List.filter_cons, Nat.reduceAdd, Nat.reduceLeDiff, reduceCtorEq, List.length_nil, List.length_cons, Nat.mul_one, if_true, if_false, Bool.false_eq_true, eq_self, and_true, true_and, retL, resultsL, resAllL, resOfL, List.append_nil, List.nil_append, List.cons_append, true_or, or_true, false_or, or_false, false_and, and_false, not_true_eq_false, not_false_eq_true, ne_eq, unL, trim_nil, views_pures, LV.pures, LV.pure, freeze, Nat.reduceDiv, Int.reduceEq, Int.reduceLT, Int.reduceLE, Int.natCast_zero, LV.cells, allocL, List.getElem?_cons_zero, List.getElem?_cons_succ, storeL, spliceL, List.take_zero, List.take_succ_cons, List.drop_zero, List.drop_succ_cons, List.drop_nil, List.take_nil, Nat.le_refl, Nat.reduceMul, List.set_cons_zero, List.set_cons_succ, LV.scalar, List.all_cons, List.all_nil, Nat.lt_add_one, Nat.zero_lt_one, Nat.reduceLT, Nat.lt_irrefl, fillL, List.length_append, foldIntL, kind_beq, pures_int, solids_int, plains_int, unders_int, scalars_int, hc, h1, e1, e2]
      rfl
    · have f3 := e3 h
      simp only [CV, if_neg h] at e2
      have hv := view_slq m' n L 1 q true 0 f3 hq
      refine ⟨false, Nat.beq 1 0, 1, .inr rfl, (fun h => by cases h), fun m => call_Pv lp_share_Most rfl (by simp [LV.pures, LV.pure]) ?_ hv m⟩
      simp only [share_Most, share_Most.B, beqT, beqF, exF_seq, exF_region, exF_block, exF_cond, exF_ret, exF_exit, exF_skip, runL, wantL, stepL, evL, evC, LEnv.at, putL, loadFine, loadL, cellsAt, Trk.putNew, Trk.up, Trk.touch, Trk.gives, Trk.calm, Trk.hit, opdsOf, Trk.fresh, LEnv.keep, LEnv.ofFrom, List.map_cons, List.map_nil, nbeq, nble, nblt, ofAV, ofAVs, lenL, bin_add, bin_sub, bin_mul, bin_eql, bin_neq, bin_lss, bin_leq, bin_gtr, bin_geq, natL_nat, natL_zero, natL_one, natL_two, Nat.zero_mul, List.any_cons, List.any_nil, Bool.or_false, Bool.false_or, Bool.true_or, Bool.or_true, Bool.and_true, Bool.true_and, Bool.and_false, Bool.false_and, Bool.not_true, Bool.not_false, Nat.reduceBEq, Nat.reduceEqDiff, decide_true, decide_false, cond_true, cond_false, List.filter_nil, List.filter_cons, Nat.reduceAdd, Nat.reduceLeDiff, reduceCtorEq, List.length_nil, List.length_cons, Nat.mul_one, if_true, if_false, Bool.false_eq_true, eq_self, and_true, true_and, retL, resultsL, resAllL, resOfL, List.append_nil, List.nil_append, List.cons_append, true_or, or_true, false_or, or_false, false_and, and_false, not_true_eq_false, not_false_eq_true, ne_eq, unL, trim_nil, views_pures, LV.pures, LV.pure, freeze, Nat.reduceDiv, Int.reduceEq, Int.reduceLT, Int.reduceLE, Int.natCast_zero, LV.cells, allocL, List.getElem?_cons_zero, List.getElem?_cons_succ, storeL, spliceL, List.take_zero, List.take_succ_cons, List.drop_zero, List.drop_succ_cons, List.drop_nil, List.take_nil, Nat.le_refl, Nat.reduceMul, List.set_cons_zero, List.set_cons_succ, LV.scalar, List.all_cons, List.all_nil, Nat.lt_add_one, Nat.zero_lt_one, Nat.reduceLT, Nat.lt_irrefl, fillL, List.length_append, foldIntL, kind_beq, pures_int, solids_int, plains_int, unders_int, scalars_int, hc, h1, e1, e2]
  · rw [if_neg h1]
    refine ⟨true, true, 0, .inl rfl, fun _ => rfl, fun m => call_P lp_share_Most rfl (by simp [LV.pures, LV.pure]) (m1 := []) ?_ (by simp [LV.pures, LV.pure]) m⟩
    simp only [share_Most, share_Most.B, beqT, beqF, exF_seq, exF_region, exF_block, exF_cond, exF_ret, exF_exit, exF_skip, runL, wantL, stepL, evL, evC, LEnv.at, putL, loadFine, loadL, cellsAt, Trk.putNew, Trk.up, Trk.touch, Trk.gives, Trk.calm, Trk.hit, opdsOf, Trk.fresh, LEnv.keep, LEnv.ofFrom, List.map_cons, List.map_nil, nbeq, nble, nblt, ofAV, ofAVs, lenL, bin_add, bin_sub, bin_mul, bin_eql, bin_neq, bin_lss, bin_leq, bin_gtr, bin_geq, natL_nat, natL_zero, natL_one, natL_two, Nat.zero_mul, List.any_cons, List.any_nil, Bool.or_false, Bool.false_or, Bool.true_or, Bool.or_true, Bool.and_true, Bool.true_and, Bool.and_false, Bool.false_and, Bool.not_true, Bool.not_false, Nat.reduceBEq, Nat.reduceEqDiff, decide_true, decide_false, cond_true, cond_false, List.filter_nil, List.filter_cons, Nat.reduceAdd, Nat.reduceLeDiff, reduceCtorEq, List.length_nil, List.length_cons, Nat.mul_one, if_true, if_false, Bool.false_eq_true, eq_self, and_true, true_and, retL, resultsL, resAllL, resOfL, List.append_nil, List.nil_append, List.cons_append, true_or, or_true, false_or, or_false, false_and, and_false, not_true_eq_false, not_false_eq_true, ne_eq, unL, trim_nil, views_pures, LV.pures, LV.pure, freeze, Nat.reduceDiv, Int.reduceEq, Int.reduceLT, Int.reduceLE, Int.natCast_zero, LV.cells, allocL, List.getElem?_cons_zero, List.getElem?_cons_succ, storeL, spliceL, List.take_zero, List.take_succ_cons, List.drop_zero, List.drop_succ_cons, List.drop_nil, List.take_nil, Nat.le_refl, Nat.reduceMul, List.set_cons_zero, List.set_cons_succ, LV.scalar, List.all_cons, List.all_nil, Nat.lt_add_one, Nat.zero_lt_one, Nat.reduceLT, Nat.lt_irrefl, fillL, List.length_append, foldIntL, kind_beq, pures_int, solids_int, plains_int, unders_int, scalars_int, hc, h1]
    rfl

/-! ### One division -/
def hblk (L : Nat) (hs : List (List Int)) : LMem := if L = 0 then [] else hs.reverse.map fun q => ⟨ints q, true⟩
def bestM (L : Nat) : List (List Int) → LV
  | [] => .lst true true 0 0 []
  | _ :: t => CV (6 + t.length) L
def mow (L : Nat) (hs : List (List Int)) : Bool := hs.isEmpty || decide (L ≠ 0)
def MMo (w : LBlk) (V : List (List Int)) (VV : LV) (L : Nat) (hs : List (List Int)) (o : List Int) : LMem :=
  [w, ⟨[VV], true⟩, ⟨[bestM L hs], true⟩, ⟨[.int .i64 (curP V hs).1], true⟩, ⟨[.int .i64 (curP V hs).2], true⟩, ⟨ints o, mow L hs⟩] ++ hblk L hs
theorem mm_length (w : LBlk) (V : List (List Int)) (VV : LV) (L : Nat) (hs : List (List Int)) (o : List Int) : (MMo w V VV L hs o).length = 6 + (if L = 0 then 0 else hs.length) := by
  unfold MMo hblk
  by_cases h : L = 0 <;> simp [h]
  omega
theorem mo_loop {rs : List Row} {o : List Int} (D : LOk rs o) (V0 V2 V3 V4 : LV) (m : LMem) (d : Nat) : ∀ (i : Nat) (a : Int × Int), i + d = rs.length →
    exF LP law07_ShareMost_1.L0 [(0, V0), (2, V2), (3, V3), (4, V4), (6, .int .i64 a.1), (7, .int .i64 a.2), (12, VL false true 1 (WR (vals rs) o)), (13, .int .i64 (rs.length : Int)), (14, .int .i64 (i : Int))] m =
      some (.exit 0, [(0, V0), (2, V2), (3, V3), (4, V4), (6, .int .i64 (prodF (ownL (vals rs) o i d) a).1), (7, .int .i64 (prodF (ownL (vals rs) o i d) a).2)], m) := by
  have h4 := D.le4
  induction d with
  | zero =>
    intro i a hi
    have e0 : prodF (ownL (vals rs) o i 0) a = a := rfl
    rw [law07_ShareMost_1.L0_eq, e0]
    simp only [law07_ShareMost_1.B0, beqT, beqF, exF_seq, exF_region, exF_block, exF_cond, exF_ret, exF_exit, exF_skip, runL, wantL, stepL, evL, evC, LEnv.at, putL, loadFine, loadL, cellsAt, Trk.putNew, Trk.up, Trk.touch, Trk.gives, Trk.calm, Trk.hit, opdsOf, Trk.fresh, LEnv.keep, LEnv.ofFrom, List.map_cons, List.map_nil, nbeq, nble, nblt, ofAV, ofAVs, lenL, bin_add, bin_sub, bin_mul, bin_eql, bin_neq, bin_lss, bin_leq, bin_gtr, bin_geq, natL_nat, natL_zero, natL_one, natL_two, Nat.zero_mul, List.any_cons, List.any_nil, Bool.or_false, Bool.false_or, Bool.true_or, Bool.or_true, Bool.and_true, Bool.true_and, Bool.and_false, Bool.false_and, Bool.not_true, Bool.not_false, Nat.reduceBEq, Nat.reduceEqDiff, decide_true, decide_false, cond_true, cond_false, List.filter_nil, List.filter_cons, Nat.reduceAdd, Nat.reduceLeDiff, reduceCtorEq, List.length_nil, List.length_cons, Nat.mul_one, if_true, if_false, Bool.false_eq_true, eq_self, and_true, true_and, retL, resultsL, resAllL, resOfL, List.append_nil, List.nil_append, List.cons_append, true_or, or_true, false_or, or_false, false_and, and_false, not_true_eq_false, not_false_eq_true, ne_eq, unL, trim_nil, views_pures, LV.pures, LV.pure, freeze, Nat.reduceDiv, Int.reduceEq, Int.reduceLT, Int.reduceLE, Int.natCast_zero, LV.cells, allocL, List.getElem?_cons_zero, List.getElem?_cons_succ, storeL, spliceL, List.take_zero, List.take_succ_cons, List.drop_zero, List.drop_succ_cons, List.drop_nil, List.take_nil, Nat.le_refl, Nat.reduceMul, List.set_cons_zero, List.set_cons_succ, LV.scalar, List.all_cons, List.all_nil, Nat.lt_add_one, Nat.zero_lt_one, Nat.reduceLT, Nat.lt_irrefl, fillL, List.length_append, foldIntL, kind_beq, pures_int, solids_int, plains_int, unders_int, scalars_int, show ¬ ((i : Int) < (rs.length : Int)) by omega]
  | succ d ih =>
    intro i a hi
    have hir : i < rs.length := by omega
    have hws := wrap_succ (show i + 1 < 9223372036854775808 by omega)
    have hA : (WR (vals rs) o).length = rs.length := by rw [WR_len, vals_length]
    have a1 := wr_row o hir
    have a2 := wr_int o hir hir
    have al := wrow_len (vals rs) o i rs.length
    have ev := vals_at rs i hir
    rw [law07_ShareMost_1.L0_eq, ownL_succ, prodF, ev]
    generalize ws (i : Int) rs[i].l o 0 = x at *
    by_cases c : 0 < x
    · rw [if_pos c]
      have ih1 := ih (i + 1) (IntKind.i64.wrap (a.1 + 1), IntKind.i64.wrap (a.2 * x)) (by omega)
      simp (maxSteps := 1000000) only [law07_ShareMost_1.B0, beqT, beqF, exF_seq, exF_region, exF_block, exF_cond, exF_ret, exF_exit, exF_skip, runL, wantL, stepL, evL, evC, LEnv.at, putL, loadFine, loadL, cellsAt, Trk.putNew, Trk.up, Trk.touch, Trk.gives, Trk.calm, Trk.hit, opdsOf, Trk.fresh, LEnv.keep, LEnv.ofFrom, List.map_cons, List.map_nil, nbeq, nble, nblt, ofAV, ofAVs, lenL, bin_add, bin_sub, bin_mul, bin_eql, bin_neq, bin_lss, bin_leq, bin_gtr, bin_geq, natL_nat, natL_zero, natL_one, natL_two, Nat.zero_mul, List.any_cons, List.any_nil, Bool.or_false, Bool.false_or, Bool.true_or, Bool.or_true, Bool.and_true, Bool.true_and, Bool.and_false, Bool.false_and, Bool.not_true, Bool.not_false, Nat.reduceBEq, Nat.reduceEqDiff, decide_true, decide_false, cond_true, cond_false, List.filter_nil, List.filter_cons, Nat.reduceAdd, Nat.reduceLeDiff, reduceCtorEq, List.length_nil, List.length_cons, Nat.mul_one, if_true, if_false, Bool.false_eq_true, eq_self, and_true, true_and, retL, resultsL, resAllL, resOfL, List.append_nil, List.nil_append, List.cons_append, true_or, or_true, false_or, or_false, false_and, and_false, not_true_eq_false, not_false_eq_true, ne_eq, unL, trim_nil, views_pures, LV.pures, LV.pure, freeze, Nat.reduceDiv, Int.reduceEq, Int.reduceLT, Int.reduceLE, Int.natCast_zero, LV.cells, allocL, List.getElem?_cons_zero, List.getElem?_cons_succ, storeL, spliceL, List.take_zero, List.take_succ_cons, List.drop_zero, List.drop_succ_cons, List.drop_nil, List.take_nil, Nat.le_refl, Nat.reduceMul, List.set_cons_zero, List.set_cons_succ, LV.scalar, List.all_cons, List.all_nil, Nat.lt_add_one, Nat.zero_lt_one, Nat.reduceLT, Nat.lt_irrefl, fillL, List.length_append, foldIntL, kind_beq, pures_int, solids_int, plains_int, unders_int, scalars_int, show ((i : Int) < (rs.length : Int)) by omega, hA, hir, a1, a2, al, c, gt_iff_lt]
      rw [hws]
      exact ih1
    · rw [if_neg c]
      have ih1 := ih (i + 1) a (by omega)
      simp (maxSteps := 1000000) only [law07_ShareMost_1.B0, beqT, beqF, exF_seq, exF_region, exF_block, exF_cond, exF_ret, exF_exit, exF_skip, runL, wantL, stepL, evL, evC, LEnv.at, putL, loadFine, loadL, cellsAt, Trk.putNew, Trk.up, Trk.touch, Trk.gives, Trk.calm, Trk.hit, opdsOf, Trk.fresh, LEnv.keep, LEnv.ofFrom, List.map_cons, List.map_nil, nbeq, nble, nblt, ofAV, ofAVs, lenL, bin_add, bin_sub, bin_mul, bin_eql, bin_neq, bin_lss, bin_leq, bin_gtr, bin_geq, natL_nat, natL_zero, natL_one, natL_two, Nat.zero_mul, List.any_cons, List.any_nil, Bool.or_false, Bool.false_or, Bool.true_or, Bool.or_true, Bool.and_true, Bool.true_and, Bool.and_false, Bool.false_and, Bool.not_true, Bool.not_false, Nat.reduceBEq, Nat.reduceEqDiff, decide_true, decide_false, cond_true, cond_false, List.filter_nil, List.filter_cons, Nat.reduceAdd, Nat.reduceLeDiff, reduceCtorEq, List.length_nil, List.length_cons, Nat.mul_one, if_true, if_false, Bool.false_eq_true, eq_self, and_true, true_and, retL, resultsL, resAllL, resOfL, List.append_nil, List.nil_append, List.cons_append, true_or, or_true, false_or, or_false, false_and, and_false, not_true_eq_false, not_false_eq_true, ne_eq, unL, trim_nil, views_pures, LV.pures, LV.pure, freeze, Nat.reduceDiv, Int.reduceEq, Int.reduceLT, Int.reduceLE, Int.natCast_zero, LV.cells, allocL, List.getElem?_cons_zero, List.getElem?_cons_succ, storeL, spliceL, List.take_zero, List.take_succ_cons, List.drop_zero, List.drop_succ_cons, List.drop_nil, List.take_nil, Nat.le_refl, Nat.reduceMul, List.set_cons_zero, List.set_cons_succ, LV.scalar, List.all_cons, List.all_nil, Nat.lt_add_one, Nat.zero_lt_one, Nat.reduceLT, Nat.lt_irrefl, fillL, List.length_append, foldIntL, kind_beq, pures_int, solids_int, plains_int, unders_int, scalars_int, show ((i : Int) < (rs.length : Int)) by omega, hA, hir, a1, a2, al, c, gt_iff_lt]
      rw [hws]
      exact ih1
theorem moR0 (V0 V4 : LV) (p c : Int × Int) (m : LMem) (h3 : m[3]? = some ⟨[.int .i64 c.1], true⟩) (h4 : m[4]? = some ⟨[.int .i64 c.2], true⟩) :
    exF LP law07_ShareMost_1.B.R0 [(0, V0), (2, .ptr 3 0 1), (3, .ptr 4 0 1), (4, V4), (6, .int .i64 p.1), (7, .int .i64 p.2)] m = some (.normal, [(0, V0), (2, .ptr 3 0 1), (3, .ptr 4 0 1), (4, V4), (6, .int .i64 p.1), (7, .int .i64 p.2), (45, .bool (gtP p c))], m) := by
  have n3 : ¬ m.length ≤ 3 := by have := (List.getElem?_eq_some_iff.1 h3).1; omega
  have n4 : ¬ m.length ≤ 4 := by have := (List.getElem?_eq_some_iff.1 h4).1; omega
  obtain ⟨p1, p2⟩ := p
  obtain ⟨c1, c2⟩ := c
  unfold gtP
  simp only at h3 h4 ⊢
  by_cases q1 : c1 < p1
  · simp (maxSteps := 1000000) only [law07_ShareMost_1.B.R0, beqT, beqF, exF_seq, exF_region, exF_block, exF_cond, exF_ret, exF_exit, exF_skip, runL, wantL, stepL, evL, evC, LEnv.at, putL, loadFine, loadL, cellsAt, Trk.putNew, Trk.up, Trk.touch, Trk.gives, Trk.calm, Trk.hit, opdsOf, Trk.fresh, LEnv.keep, LEnv.ofFrom, List.map_cons, List.map_nil, nbeq, nble, nblt, ofAV, ofAVs, lenL, bin_add, bin_sub, bin_mul, bin_eql, bin_neq, bin_lss, bin_leq, bin_gtr, bin_geq, natL_nat, natL_zero, natL_one, natL_two, Nat.zero_mul, List.any_cons, List.any_nil, Bool.or_false, Bool.false_or, Bool.true_or, Bool.or_true, Bool.and_true, Bool.true_and, Bool.and_false, Bool.false_and, Bool.not_true, Bool.not_false, Nat.reduceBEq, Nat.reduceEqDiff, decide_true, decide_false, cond_true, cond_false, List.filter_nil, List.filter_cons, Nat.reduceAdd, Nat.reduceLeDiff, reduceCtorEq, List.length_nil, List.length_cons, Nat.mul_one, if_true, if_false, Bool.false_eq_true, eq_self, and_true, true_and, retL, resultsL, resAllL, resOfL, List.append_nil, List.nil_append, List.cons_append, true_or, or_true, false_or, or_false, false_and, and_false, not_true_eq_false, not_false_eq_true, ne_eq, unL, trim_nil, views_pures, LV.pures, LV.pure, freeze, Nat.reduceDiv, Int.reduceEq, Int.reduceLT, Int.reduceLE, Int.natCast_zero, LV.cells, allocL, List.getElem?_cons_zero, List.getElem?_cons_succ, storeL, spliceL, List.take_zero, List.take_succ_cons, List.drop_zero, List.drop_succ_cons, List.drop_nil, List.take_nil, Nat.le_refl, Nat.reduceMul, List.set_cons_zero, List.set_cons_succ, LV.scalar, List.all_cons, List.all_nil, Nat.lt_add_one, Nat.zero_lt_one, Nat.reduceLT, Nat.lt_irrefl, fillL, List.length_append, foldIntL, kind_beq, pures_int, solids_int, plains_int, unders_int, scalars_int, h3, h4, n3, n4, q1, gt_iff_lt]
  · by_cases q2 : p1 = c1
    · subst q2
      by_cases q3 : c2 < p2
      · simp (maxSteps := 1000000) only [law07_ShareMost_1.B.R0, beqT, beqF, exF_seq, exF_region, exF_block, exF_cond, exF_ret, exF_exit, exF_skip, runL, wantL, stepL, evL, evC, LEnv.at, putL, loadFine, loadL, cellsAt, Trk.putNew, Trk.up, Trk.touch, Trk.gives, Trk.calm, Trk.hit, opdsOf, Trk.fresh, LEnv.keep, LEnv.ofFrom, List.map_cons, List.map_nil, nbeq, nble, nblt, ofAV, ofAVs, lenL, bin_add, bin_sub, bin_mul, bin_eql, bin_neq, bin_lss, bin_leq, bin_gtr, bin_geq, natL_nat, natL_zero, natL_one, natL_two, Nat.zero_mul, List.any_cons, List.any_nil, Bool.or_false, Bool.false_or, Bool.true_or, Bool.or_true, Bool.and_true, Bool.true_and, Bool.and_false, Bool.false_and, Bool.not_true, Bool.not_false, Nat.reduceBEq, Nat.reduceEqDiff, decide_true, decide_false, cond_true, cond_false, List.filter_nil, List.filter_cons, Nat.reduceAdd, Nat.reduceLeDiff, reduceCtorEq, List.length_nil, List.length_cons, Nat.mul_one, if_true, if_false, Bool.false_eq_true, eq_self, and_true, true_and, retL, resultsL, resAllL, resOfL, List.append_nil, List.nil_append, List.cons_append, true_or, or_true, false_or, or_false, false_and, and_false, not_true_eq_false, not_false_eq_true, ne_eq, unL, trim_nil, views_pures, LV.pures, LV.pure, freeze, Nat.reduceDiv, Int.reduceEq, Int.reduceLT, Int.reduceLE, Int.natCast_zero, LV.cells, allocL, List.getElem?_cons_zero, List.getElem?_cons_succ, storeL, spliceL, List.take_zero, List.take_succ_cons, List.drop_zero, List.drop_succ_cons, List.drop_nil, List.take_nil, Nat.le_refl, Nat.reduceMul, List.set_cons_zero, List.set_cons_succ, LV.scalar, List.all_cons, List.all_nil, Nat.lt_add_one, Nat.zero_lt_one, Nat.reduceLT, Nat.lt_irrefl, fillL, List.length_append, foldIntL, kind_beq, pures_int, solids_int, plains_int, unders_int, scalars_int, h3, h4, n3, n4, q1, q3, gt_iff_lt]
      · simp (maxSteps := 1000000) only [law07_ShareMost_1.B.R0, beqT, beqF, exF_seq, exF_region, exF_block, exF_cond, exF_ret, exF_exit, exF_skip, runL, wantL, stepL, evL, evC, LEnv.at, putL, loadFine, loadL, cellsAt, Trk.putNew, Trk.up, Trk.touch, Trk.gives, Trk.calm, Trk.hit, opdsOf, Trk.fresh, LEnv.keep, LEnv.ofFrom, List.map_cons, List.map_nil, nbeq, nble, nblt, ofAV, ofAVs, lenL, bin_add, bin_sub, bin_mul, bin_eql, bin_neq, bin_lss, bin_leq, bin_gtr, bin_geq, natL_nat, natL_zero, natL_one, natL_two, Nat.zero_mul, List.any_cons, List.any_nil, Bool.or_false, Bool.false_or, Bool.true_or, Bool.or_true, Bool.and_true, Bool.true_and, Bool.and_false, Bool.false_and, Bool.not_true, Bool.not_false, Nat.reduceBEq, Nat.reduceEqDiff, decide_true, decide_false, cond_true, cond_false, List.filter_nil, List.filter_cons, Nat.reduceAdd, Nat.reduceLeDiff, reduceCtorEq, List.length_nil, List.length_cons, Nat.mul_one, if_true, if_false, Bool.false_eq_true, eq_self, and_true, true_and, retL, resultsL, resAllL, resOfL, List.append_nil, List.nil_append, List.cons_append, true_or, or_true, false_or, or_false, false_and, and_false, not_true_eq_false, not_false_eq_true, ne_eq, unL, trim_nil, views_pures, LV.pures, LV.pure, freeze, Nat.reduceDiv, Int.reduceEq, Int.reduceLT, Int.reduceLE, Int.natCast_zero, LV.cells, allocL, List.getElem?_cons_zero, List.getElem?_cons_succ, storeL, spliceL, List.take_zero, List.take_succ_cons, List.drop_zero, List.drop_succ_cons, List.drop_nil, List.take_nil, Nat.le_refl, Nat.reduceMul, List.set_cons_zero, List.set_cons_succ, LV.scalar, List.all_cons, List.all_nil, Nat.lt_add_one, Nat.zero_lt_one, Nat.reduceLT, Nat.lt_irrefl, fillL, List.length_append, foldIntL, kind_beq, pures_int, solids_int, plains_int, unders_int, scalars_int, h3, h4, n3, n4, q1, q3, gt_iff_lt]
    · simp (maxSteps := 1000000) only [law07_ShareMost_1.B.R0, beqT, beqF, exF_seq, exF_region, exF_block, exF_cond, exF_ret, exF_exit, exF_skip, runL, wantL, stepL, evL, evC, LEnv.at, putL, loadFine, loadL, cellsAt, Trk.putNew, Trk.up, Trk.touch, Trk.gives, Trk.calm, Trk.hit, opdsOf, Trk.fresh, LEnv.keep, LEnv.ofFrom, List.map_cons, List.map_nil, nbeq, nble, nblt, ofAV, ofAVs, lenL, bin_add, bin_sub, bin_mul, bin_eql, bin_neq, bin_lss, bin_leq, bin_gtr, bin_geq, natL_nat, natL_zero, natL_one, natL_two, Nat.zero_mul, List.any_cons, List.any_nil, Bool.or_false, Bool.false_or, Bool.true_or, Bool.or_true, Bool.and_true, Bool.true_and, Bool.and_false, Bool.false_and, Bool.not_true, Bool.not_false, Nat.reduceBEq, Nat.reduceEqDiff, decide_true, decide_false, cond_true, cond_false, List.filter_nil, List.filter_cons, Nat.reduceAdd, Nat.reduceLeDiff, reduceCtorEq, List.length_nil, List.length_cons, Nat.mul_one, if_true, if_false, Bool.false_eq_true, eq_self, and_true, true_and, retL, resultsL, resAllL, resOfL, List.append_nil, List.nil_append, List.cons_append, true_or, or_true, false_or, or_false, false_and, and_false, not_true_eq_false, not_false_eq_true, ne_eq, unL, trim_nil, views_pures, LV.pures, LV.pure, freeze, Nat.reduceDiv, Int.reduceEq, Int.reduceLT, Int.reduceLE, Int.natCast_zero, LV.cells, allocL, List.getElem?_cons_zero, List.getElem?_cons_succ, storeL, spliceL, List.take_zero, List.take_succ_cons, List.drop_zero, List.drop_succ_cons, List.drop_nil, List.take_nil, Nat.le_refl, Nat.reduceMul, List.set_cons_zero, List.set_cons_succ, LV.scalar, List.all_cons, List.all_nil, Nat.lt_add_one, Nat.zero_lt_one, Nat.reduceLT, Nat.lt_irrefl, fillL, List.length_append, foldIntL, kind_beq, pures_int, solids_int, plains_int, unders_int, scalars_int, h3, h4, n3, n4, q1, q2, gt_iff_lt]
theorem mm_trim (w : LBlk) (V : List (List Int)) (VV : LV) (L : Nat) (hs : List (List Int)) (o q : List Int) (k : Nat) (hk : k ≤ 6 + hs.length) (hk3 : 2 < k) (h0 : L = 0 → k = 6) : trim k [.tup []] (MMo w V VV L (q :: hs) o) = MMo w V VV L (q :: hs) o := by
  by_cases h : L = 0
  · exact trim_le _ _ _ (by rw [mm_length, if_pos h, h0 h]; omega)
  · unfold trim
    have hb : belowM k ((MMo w V VV L (q :: hs) o).take k) = false := by
      unfold belowM
      rw [List.all_eq_false]
      refine ⟨⟨[bestM L (q :: hs)], true⟩, ?_, ?_⟩
      · refine List.mem_of_getElem? (i := 2) ?_
        rw [List.getElem?_take, if_pos hk3]
        rfl
      · have : ¬ (6 + hs.length < k) := by omega
        simp [bestM, CV, h, LV.unders, LV.under, nblt, this]
    rw [hb, Bool.and_false, cond_false]
theorem most1_w (w : LBlk) (b0 c0 : Bool) (z0 : Nat) {rs : List Row} {L : Nat} {o : List Int} (D : LOk rs o) (ho : o.length = L) (hs : List (List Int)) :
    clF LP n_law07_ShareMost_1 [SLo 5 L, .ptr 1 0 1, .ptr 3 0 1, .ptr 4 0 1, .ptr 2 0 1] (MMo w (vals rs) (VL b0 c0 z0 rs) L hs o) = some (.W, .tup [], MMo w (vals rs) (VL b0 c0 z0 rs) L (visM (vals rs) hs o).1 o) := by
  have h6 := D.le6
  have hvl := vals_length rs
  have hwm := worths_m b0 c0 z0 D (m := MMo w (vals rs) (VL b0 c0 z0 rs) L hs o) (i := 5) (b := mow L hs) rfl ho
  have hlo := mo_loop D (SLo 5 L) (.ptr 3 0 1) (.ptr 4 0 1) (.ptr 2 0 1) (MMo w (vals rs) (VL b0 c0 z0 rs) L hs o) rs.length 0 (0, 1) (by omega)
  have hpO : prodF (ownL (vals rs) o 0 rs.length) (0, 1) = prodO (vals rs) o := by unfold prodO; rw [hvl]
  rw [Int.natCast_zero, hpO] at hlo
  have r0 := moR0 (SLo 5 L) (.ptr 2 0 1) (prodO (vals rs) o) (curP (vals rs) hs) (MMo w (vals rs) (VL b0 c0 z0 rs) L hs o) rfl rfl
  have g1 : (MMo w (vals rs) (VL b0 c0 z0 rs) L hs o)[1]? = some ⟨[VL b0 c0 z0 rs], true⟩ := rfl
  have lW : lenL (VL false true 1 (WR (vals rs) o)) = some rs.length := by show some (WR (vals rs) o).length = _; rw [WR_len, hvl]
  have hcw : ∀ (e : LEnv) (m1 : LMem), exF LP law07_ShareMost_1.body (LEnv.ofFrom 0 [SLo 5 L, .ptr 1 0 1, .ptr 3 0 1, .ptr 4 0 1, .ptr 2 0 1]) (MMo w (vals rs) (VL b0 c0 z0 rs) L hs o) = some (.normal, e, m1) → clF LP n_law07_ShareMost_1 [SLo 5 L, .ptr 1 0 1, .ptr 3 0 1, .ptr 4 0 1, .ptr 2 0 1] (MMo w (vals rs) (VL b0 c0 z0 rs) L hs o) = some (.W, .tup [], trim (MMo w (vals rs) (VL b0 c0 z0 rs) L hs o).length [.tup []] m1) := fun e m1 h => call_W (v := .tup []) (m1 := m1) lp_law07_ShareMost_1 rfl (by rw [h]; rfl)
  unfold visM
  cases hF : gtP (prodO (vals rs) o) (curP (vals rs) hs)
  · rw [hF] at r0
    simp only [Bool.false_eq_true, if_false]
    rw [hcw [(0, SLo 5 L), (2, .ptr 3 0 1), (3, .ptr 4 0 1), (4, .ptr 2 0 1), (6, .int .i64 (prodO (vals rs) o).1), (7, .int .i64 (prodO (vals rs) o).2), (45, .bool false)] (MMo w (vals rs) (VL b0 c0 z0 rs) L hs o) ?_, trim_le _ _ _ (Nat.le_refl _)]
    generalize MMo w (vals rs) (VL b0 c0 z0 rs) L hs o = M at *
    generalize VL false true 1 (WR (vals rs) o) = VW at *
    generalize prodO (vals rs) o = p at *
    simp (maxSteps := 1000000) only [law07_ShareMost_1, law07_ShareMost_1.B, beqT, beqF, exF_seq, exF_region, exF_block, exF_cond, exF_ret, exF_exit, exF_skip, runL, wantL, stepL, evL, evC, LEnv.at, putL, loadFine, loadL, cellsAt, Trk.putNew, Trk.up, Trk.touch, Trk.gives, Trk.calm, Trk.hit, opdsOf, Trk.fresh, LEnv.keep, LEnv.ofFrom, List.map_cons, List.map_nil, nbeq, nble, nblt, ofAV, ofAVs, bin_add, bin_sub, bin_mul, bin_eql, bin_neq, bin_lss, bin_leq, bin_gtr, bin_geq, natL_nat, natL_zero, natL_one, natL_two, Nat.zero_mul, List.any_cons, List.any_nil, Bool.or_false, Bool.false_or, Bool.true_or, Bool.or_true, Bool.and_true, Bool.true_and, Bool.and_false, Bool.false_and, Bool.not_true, Bool.not_false, Nat.reduceBEq, Nat.reduceEqDiff, decide_true, decide_false, cond_true, cond_false, List.filter_nil, List.filter_cons, Nat.reduceAdd, Nat.reduceLeDiff, reduceCtorEq, List.length_nil, List.length_cons, Nat.mul_one, if_true, if_false, Bool.false_eq_true, eq_self, and_true, true_and, retL, resultsL, resAllL, resOfL, List.append_nil, List.nil_append, List.cons_append, true_or, or_true, false_or, or_false, false_and, and_false, not_true_eq_false, not_false_eq_true, ne_eq, unL, trim_nil, views_pures, LV.pures, LV.pure, freeze, Nat.reduceDiv, Int.reduceEq, Int.reduceLT, Int.reduceLE, Int.natCast_zero, LV.cells, allocL, List.getElem?_cons_zero, List.getElem?_cons_succ, storeL, spliceL, List.take_zero, List.take_succ_cons, List.drop_zero, List.drop_succ_cons, List.drop_nil, List.take_nil, Nat.le_refl, Nat.reduceMul, List.set_cons_zero, List.set_cons_succ, LV.scalar, List.all_cons, List.all_nil, Nat.lt_add_one, Nat.zero_lt_one, Nat.reduceLT, Nat.lt_irrefl, fillL, List.length_append, foldIntL, kind_beq, pures_int, solids_int, plains_int, unders_int, scalars_int, g1, hwm, lW, hlo, r0]
  · rw [hF] at r0
    simp only [if_true]
    have g5 : (MMo w (vals rs) (VL b0 c0 z0 rs) L hs o)[5]? = some ⟨o.map (LV.int .i64), mow L hs⟩ := rfl
    have hcl := clone_m (g := 0) g5 ho (by omega)
    have hlen := mm_length w (vals rs) (VL b0 c0 z0 rs) L hs o
    have hcvk : CV (MMo w (vals rs) (VL b0 c0 z0 rs) L hs o).length L = CV (6 + hs.length) L := by
      rw [hlen]
      unfold CV
      by_cases h : L = 0
      · rw [if_pos h, if_pos h]
      · simp only [if_neg h]
    rw [hcvk] at hcl
    have hcv : (CV (6 + hs.length) L).cells = some [CV (6 + hs.length) L] := by unfold CV; split <;> rfl
    have hcs : LV.scalar (CV (6 + hs.length) L) = true := by unfold CV; split <;> rfl
    have hci : ∀ n : Int, (LV.int .i64 n).cells = some [.int .i64 n] := fun _ => rfl
    have hsi : ∀ n : Int, LV.scalar (.int .i64 n) = true := fun _ => rfl
    have key : (if L = 0 then freeze [5] (MMo w (vals rs) (VL b0 c0 z0 rs) L hs o) else MMo w (vals rs) (VL b0 c0 z0 rs) L hs o ++ [⟨o.map (LV.int .i64), true⟩]) = [w, ⟨[VL b0 c0 z0 rs], true⟩, ⟨[bestM L hs], true⟩, ⟨[.int .i64 (curP (vals rs) hs).1], true⟩, ⟨[.int .i64 (curP (vals rs) hs).2], true⟩, ⟨ints o, decide (L ≠ 0)⟩] ++ hblk L (o :: hs) := by
      by_cases h : L = 0
      · rw [if_pos h]
        simp [MMo, hblk, mow, h, freeze, freeze1]
      · rw [if_neg h]
        simp [MMo, hblk, mow, h]
    rw [key] at hcl
    have htr := mm_trim w (vals rs) (VL b0 c0 z0 rs) L hs o o (MMo w (vals rs) (VL b0 c0 z0 rs) L hs o).length (by rw [hlen]; split <;> omega) (by rw [hlen]; omega) (fun h => by rw [hlen, if_pos h])
    have hres : MMo w (vals rs) (VL b0 c0 z0 rs) L (o :: hs) o = [w, ⟨[VL b0 c0 z0 rs], true⟩, ⟨[CV (6 + hs.length) L], true⟩, ⟨[.int .i64 (prodO (vals rs) o).1], true⟩, ⟨[.int .i64 (prodO (vals rs) o).2], true⟩, ⟨ints o, decide (L ≠ 0)⟩] ++ hblk L (o :: hs) := rfl
    have hc := hcw [] (MMo w (vals rs) (VL b0 c0 z0 rs) L (o :: hs) o)
    rw [htr] at hc
    refine hc ?_
    rw [hres]
    clear hc hcw htr hres key
    generalize MMo w (vals rs) (VL b0 c0 z0 rs) L hs o = M at *
    generalize VL false true 1 (WR (vals rs) o) = VW at *
    generalize prodO (vals rs) o = p at *
    generalize CV (6 + hs.length) L = cv at *
    generalize bestM L hs = bm at *
    generalize hblk L (o :: hs) = T at *
    generalize VL b0 c0 z0 rs = VV at *
    simp (maxSteps := 1000000) only [law07_ShareMost_1, law07_ShareMost_1.B, beqT, beqF, exF_seq, exF_region, exF_block, exF_cond, exF_ret, exF_exit, exF_skip, runL, wantL, stepL, evL, evC, LEnv.at, putL, loadFine, loadL, cellsAt, Trk.putNew, Trk.up, Trk.touch, Trk.gives, Trk.calm, Trk.hit, opdsOf, Trk.fresh, LEnv.keep, LEnv.ofFrom, List.map_cons, List.map_nil, nbeq, nble, nblt, ofAV, ofAVs, bin_add, bin_sub, bin_mul, bin_eql, bin_neq, bin_lss, bin_leq, bin_gtr, bin_geq, natL_nat, natL_zero, natL_one, natL_two, Nat.zero_mul, List.any_cons, List.any_nil, Bool.or_false, Bool.false_or, Bool.true_or, Bool.or_true, Bool.and_true, Bool.true_and, Bool.and_false, Bool.false_and, Bool.not_true, Bool.not_false, Nat.reduceBEq, Nat.reduceEqDiff, decide_true, decide_false, cond_true, cond_false, List.filter_nil, List.filter_cons, Nat.reduceAdd, Nat.reduceLeDiff, reduceCtorEq, List.length_nil, List.length_cons, Nat.mul_one, if_true, if_false, Bool.false_eq_true, eq_self, and_true, true_and, retL, resultsL, resAllL, resOfL, List.append_nil, List.nil_append, List.cons_append, true_or, or_true, false_or, or_false, false_and, and_false, not_true_eq_false, not_false_eq_true, ne_eq, unL, trim_nil, views_pures, LV.pures, LV.pure, freeze, Nat.reduceDiv, Int.reduceEq, Int.reduceLT, Int.reduceLE, Int.natCast_zero, allocL, List.getElem?_cons_zero, List.getElem?_cons_succ, storeL, spliceL, List.take_zero, List.take_succ_cons, List.drop_zero, List.drop_succ_cons, List.drop_nil, List.take_nil, Nat.le_refl, Nat.reduceMul, List.set_cons_zero, List.set_cons_succ, List.all_cons, List.all_nil, Nat.lt_add_one, Nat.zero_lt_one, Nat.reduceLT, Nat.lt_irrefl, fillL, List.length_append, foldIntL, kind_beq, pures_int, solids_int, plains_int, unders_int, scalars_int, g1, hwm, lW, hlo, r0, hcl, hcv, hcs, hci, hsi]
end Go.Am.Share

/-
  What functions of chapter 07 compute, outright 18: the law 'ShareMost', joined.
-/
set_option linter.unusedVariables false
set_option linter.unusedSimpArgs false
set_option maxRecDepth 10000
set_option maxHeartbeats 400000
namespace Go.Am.Share
open Go.Am.G

theorem runM_true (V : List (List Int)) : ∀ (l h : List (List Int)), (runV (visM V) h l).2 = true
  | [], h => rfl
  | x :: xs, h => by rw [runV, if_pos (show (visM V h x).2 = true from rfl)]; exact runM_true V xs _
theorem runM_snoc (V : List (List Int)) (l : List (List Int)) (o : List Int) : (runV (visM V) [] (l ++ [o])).1 = (visM V (runV (visM V) [] l).1 o).1 := by
  rw [runV_append, if_pos (runM_true V l []), runV, if_pos (show (visM V (runV (visM V) [] l).1 o).2 = true from rfl)]
  rfl
def XMo (w : LBlk) (b0 c0 : Bool) (z0 : Nat) {rs : List Row} (L : Nat) (hD : ∀ o : List Int, o.length = L → (∀ x ∈ o, 0 ≤ x ∧ x < (rs.length : Int)) → LOk rs o) : DVis rs.length L where
  mem h o := MMo w (vals rs) (VL b0 c0 z0 rs) L (runV (visM (vals rs)) [] h).1 o
  f := n_law07_ShareMost_1
  cap := [.ptr 1 0 1, .ptr 3 0 1, .ptr 4 0 1, .ptr 2 0 1]
  b := 5
  own h := mow L (runV (visM (vals rs)) [] h).1
  hown h hL := by
    have : L ≠ 0 := by omega
    simp [mow, this]
  hb h o ho := rfl
  hset h o k x ho hk := by
    have : mow L (runV (visM (vals rs)) [] h).1 = true := by
      have : L ≠ 0 := by omega
      simp [mow, this]
    simp [MMo, this]
  hvis h o hG ho hr := by
    rw [runM_snoc]
    exact most1_w w b0 c0 z0 (hD o ho hr) ho _
theorem allR_all (N : Nat) : ∀ (q : List Int), (∀ x ∈ q, 0 ≤ x ∧ x < (N : Int)) → q ∈ allR N q.length
  | [], _ => by simp [allR]
  | x :: q, h => by
    have h0 := h x (by simp)
    simp only [List.length_cons, allR, List.mem_flatMap, List.mem_map, List.mem_range'_1]
    exact ⟨x.toNat, ⟨by omega, by omega⟩, q, allR_all N q (fun y hy => h y (by simp [hy])), by rw [Int.toNat_of_nonneg h0.1]⟩
/-- What the greatest product is. -/
theorem most_facts {rs : List Row} {L : Nat} (B : BetOk rs L) (hL : L ≤ 6) (hck : chkV (vals rs) = 0) :
    (∃ t, (runV (visM (vals rs)) [] (allR rs.length L)).1 = mostV (vals rs) :: t) ∧ (mostV (vals rs)).length = L ∧ (∀ x ∈ mostV (vals rs), 0 ≤ x ∧ x < (rs.length : Int)) ∧ PX (vals rs) (mostV (vals rs)) = [] ∧ (allR rs.length L).find? (fun q => better (vals rs) q (mostV (vals rs))) = none := by
  have h4 := B.le4
  have hpos := B.pos
  have hvl := vals_length rs
  have hA := allR_D rs.length L
  cases hl : allD rs.length L with
  | nil =>
    exfalso
    have h := allR_all rs.length (List.replicate L 0) (fun x hx => by rw [List.eq_of_mem_replicate hx]; omega)
    rw [List.length_replicate, hA, hl] at h
    cases h
  | cons b r =>
    have hmv : mostV (vals rs) = mostF (vals rs) b r := by
      unfold mostV
      rw [if_pos hck, hvl, B.hV0, hl]
    obtain ⟨h1, h2⟩ := mostF_ok (vals rs) r b
    rw [← hl, ← hA] at h1 h2
    have hlen := allR_length _ _ _ h1
    have hrng := allR_mem _ _ _ h1
    rw [hmv]
    have hV : ∀ i, i < (vals rs).length → ((vals rs).getD i []).length = L ∧ Ok20 ((vals rs).getD i []) := fun i hi => by
      have hi2 : i < rs.length := by omega
      have D := B.hD (List.replicate L 0) (by simp) (fun x hx => by rw [List.eq_of_mem_replicate hx]; omega)
      have e := D.len i hi2
      rw [List.length_replicate] at e
      rw [vals_at rs i hi2]
      exact ⟨e.symm, D.ok i hi2⟩
    have hbd : ∀ q : List Int, ∀ w ∈ ownL (vals rs) q 0 (vals rs).length, 0 ≤ w ∧ w ≤ 1000 := fun q w hw => by
      simp only [ownL, List.mem_map, List.mem_range'_1] at hw
      obtain ⟨i, hi, rfl⟩ := hw
      obtain ⟨h1, h2⟩ := hV i (by omega)
      have := ws_bound (i : Int) ((vals rs).getD i []) q 0 h2 (by omega)
      omega
    refine ⟨?_, hlen, hrng, ?_, ?_⟩
    · obtain ⟨t, ht⟩ := most_first (vals rs) (by omega) b r
      rw [hA, hl]
      exact ⟨t, ht⟩
    · refine most_ef1 (by omega) hL hV hlen (by rw [hvl]; exact hrng) (fun q hq hqr => h2 q ?_)
      rw [← hq]
      exact allR_all _ q (by rw [hvl] at hqr; exact hqr)
    · rw [List.find?_eq_none]
      intro q hq hb
      have hs := better_score (fun w hw => (hbd _ w hw).1) hb
      have hg := h2 q hq
      rw [prodO_eq _ (by omega) (fun w hw => (hbd _ w hw).2), prodO_eq _ (by omega) (fun w hw => (hbd _ w hw).2), gtP_sLt.2 hs] at hg
      cases hg
theorem most_in (ns : List Int) (hl : ns.length = 26) (hb : ∀ n ∈ ns, 0 ≤ n ∧ n < 256) :
    clF LP n_law07_ShareMost [.agg (ns.map (LV.int .u8))] [] = some (.P, .bool true, []) := by
  obtain ⟨w, rfl, hwb⟩ := bytes_nat ns hb
  rw [ci_ln] at hl
  show clF LP n_law07_ShareMost [.agg (bys w)] [] = some (.P, .bool true, [])
  obtain ⟨b0, c0, z0, hm⟩ := made_c w hl hwb 4 5 9 (by omega) (by omega) (by omega)
  have hr := Nat.mod_lt (w.getD 0 0) (show 0 < 4 by omega)
  have hn := Nat.mod_lt (w.getD 1 0) (show 0 < 5 + 1 by omega)
  have hbl : (bys w).length = 26 := by simp [hl]
  have htk : (bys w).take 26 = bys w := List.take_of_length_le (by omega)
  have hps : LV.pures (bys w) = true := pures_int _ _
  generalize hn' : w.getD 1 0 % (5 + 1) = L at *
  generalize hr' : 1 + w.getD 0 0 % 4 = r at *
  have hr1 : 1 ≤ r := by omega
  have hr4 : r ≤ 4 := by omega
  have hrl := rsM_len w 9 L r
  have hvals := rsM_vals w 9 L r
  have hD : ∀ o : List Int, o.length = L → (∀ x ∈ o, 0 ≤ x ∧ x < ((rsM w 9 L r).length : Int)) → LOk (rsM w 9 L r) o := fun o ho h => rsM_ok w 9 L r (by omega) (by omega) hr1 hr4 o ho (fun x hx => by have := h x hx; rw [hrl] at this; omega)
  have hdv : ∀ o : List Int, o.length = L → (∀ x ∈ o, 0 ≤ x ∧ x < ((rsM w 9 L r).length : Int)) → divE (vals (rsM w 9 L r)) o = 0 := fun o ho h => by rw [hvals]; exact divM w 9 L r (by omega) (by omega) hr1 hr4 o ho (fun x hx => by have := h x hx; rw [hrl] at this; exact this)
  have hck : chkV (vals (rsM w 9 L r)) = 0 := by rw [hvals]; exact chkM w 9 L r (by omega) (by omega) hr1 hr4
  have hrow0 : ((rsM w 9 L r).map Row.lv)[0]? = some (rowR (rowL (cut6 w 0) 9 L)).lv := by
    rw [row_at _ _ (by omega), rsM_at]
  have hlen0 : lenL (rowR (rowL (cut6 w 0) 9 L)).lv = some L := by
    show some (rowL (cut6 w 0) 9 L).length = some L
    rw [rowL_len]
  have hV0 : ((vals (rsM w 9 L r)).getD 0 []).length = L := by
    rw [vals_at _ 0 (by omega), rsM_at]
    show (rowL _ 9 L).length = L
    rw [rowL_len]
  generalize hrs : rsM w 9 L r = rs at *
  have hpos : 0 < rs.length := by omega
  have B : BetOk rs L := ⟨hD, hdv, by omega, by omega, hV0⟩
  have hr10 : ∀ x ∈ rs, x.l.length < 1000000 := fun x hx => by
    obtain ⟨i, hi, e⟩ := List.getElem_of_mem hx
    have := (hD (List.replicate L 0) (by simp) (fun y hy => by rw [List.eq_of_mem_replicate hy]; omega)).len i hi
    rw [List.length_replicate] at this
    rw [← e]; omega
  obtain ⟨⟨t, ht⟩, hql, hqr, hpx, hfn⟩ := most_facts B (by omega) hck
  -- all divisions
  have hw := divisions_w rs (XMo ⟨bys w, true⟩ b0 c0 z0 L hD) b0 c0 z0 (by omega) (by omega) hpos (by rw [hrow0, Option.map_some, hlen0]) [⟨bys w, true⟩, ⟨[VL b0 c0 z0 rs], true⟩, ⟨[.lst true true 0 0 []], true⟩, ⟨[.int .i64 (-1)], true⟩, ⟨[.int .i64 0], true⟩] (by
    show _ = MMo ⟨bys w, true⟩ (vals rs) (VL b0 c0 z0 rs) L [] (List.replicate L 0)
    simp [MMo, hblk, bestM, mow, curP]) rfl
  have hX : (XMo ⟨bys w, true⟩ b0 c0 z0 L hD).mem (allR rs.length L) (List.replicate L 0) = MMo ⟨bys w, true⟩ (vals rs) (VL b0 c0 z0 rs) L (mostV (vals rs) :: t) (List.replicate L 0) := by
    show MMo ⟨bys w, true⟩ (vals rs) (VL b0 c0 z0 rs) L (runV (visM (vals rs)) [] (allR rs.length L)).1 (List.replicate L 0) = _
    rw [ht]
  rw [hX] at hw
  have hfunc : (XMo ⟨bys w, true⟩ b0 c0 z0 L hD).f = n_law07_ShareMost_1 := rfl
  have hcap : (XMo ⟨bys w, true⟩ b0 c0 z0 L hD).cap = [.ptr 1 0 1, .ptr 3 0 1, .ptr 4 0 1, .ptr 2 0 1] := rfl
  rw [hfunc, hcap] at hw
  obtain ⟨M', hM'⟩ : ∃ M, M = trim [⟨bys w, true⟩, ⟨[VL b0 c0 z0 rs], true⟩, ⟨[.lst true true 0 0 []], true⟩, ⟨[.int .i64 (-1)], true⟩, (⟨[.int .i64 0], true⟩ : LBlk)].length [.tup []] (MMo ⟨bys w, true⟩ (vals rs) (VL b0 c0 z0 rs) L (mostV (vals rs) :: t) (List.replicate L 0)) := ⟨_, rfl⟩
  rw [← hM'] at hw
  have q1 : M'[1]? = some ⟨[VL b0 c0 z0 rs], true⟩ := by rw [hM', trim_get (by simp)]; rfl
  have q2 : M'[2]? = some ⟨[CV (6 + t.length) L], true⟩ := by rw [hM', trim_get (by simp)]; rfl
  have hn1 : ¬ M'.length ≤ 1 := by have := (List.getElem?_eq_some_iff.1 q1).1; omega
  have hn2 : ¬ M'.length ≤ 2 := by have := (List.getElem?_eq_some_iff.1 q2).1; omega
  obtain ⟨n1, e1, z1, hz1, hz2, hmost⟩ := mostP_f b0 c0 z0 rs (by omega) hr10
  rw [hck] at hmost
  have D := hD _ hql hqr
  have hd := hdv _ hql hqr
  have hjud := fun m => judged_c b0 c0 n1 e1 z0 z1 D m
  have hfair := fun m => fairP_c b0 c0 n1 e1 z0 z1 rs _ (in_lok D hz1 hz2) m
  obtain ⟨n2, e2, z2, _, _, hbet⟩ := betterP_f b0 c0 n1 e1 z0 z1 rs _ (in_lok D hz1 hz2)
  obtain ⟨v1, v2⟩ := betterV_eq B hql hqr
  rw [v1, v2, hfn] at hbet
  simp only [if_true, Option.getD_none] at hbet
  have hfj : fairV (vals rs) (mostV (vals rs)) = judF (vals rs) (mostV (vals rs)) := by
    unfold fairV judF stF
    rw [if_neg (by simpa using hd)]
  rw [hd, hfj] at hfair
  have hj0 : 0 < judF (vals rs) (mostV (vals rs)) := by
    unfold judF stF
    rw [hpx, if_neg (by simp)]
    split <;> omega
  have hsame : clF LP n_law07_same [IL n1 e1 z1 (mostV (vals rs)), CV (6 + t.length) L] M' = some (.P, .bool true, M') := by
    by_cases h0 : L = 0
    · have hq0 : mostV (vals rs) = [] := List.length_eq_zero_iff.1 (by omega)
      rw [hq0]
      unfold CV
      rw [if_pos h0]
      exact same_refl n1 e1 false true z1 0 [] (by simp) M'
    · have hMM : M' = MMo ⟨bys w, true⟩ (vals rs) (VL b0 c0 z0 rs) L (mostV (vals rs) :: t) (List.replicate L 0) := by
        rw [hM']
        exact mm_trim _ _ _ _ _ _ _ _ (by simp; omega) (by simp) (fun h => absurd h h0)
      have h7 : M'[6 + t.length]? = some ⟨ints (mostV (vals rs)), true⟩ := by
        rw [hMM]
        unfold MMo hblk
        rw [List.getElem?_append_right (by simp), if_neg h0]
        simp
      unfold CV
      rw [if_neg h0]
      have hv : ∀ k, view (k + 3) M' (.sl (6 + t.length) 0 L L 1 1 L) = some (IL false false 1 (mostV (vals rs)), [6 + t.length]) := fun k => by
        have hqne : mostV (vals rs) ≠ [] := fun e => by rw [e] at hql; simp at hql; omega
        exact view_at hql h7 hqne k
      exact call_view lp_law07_same rfl (views_in M' (IL n1 e1 z1 (mostV (vals rs))) _ _ _ [] hv (by simp [LV.pure]) rfl rfl (by simp)) (by simp [LV.pures, LV.pure]) (same_refl n1 e1 false false z1 1 _ (by omega) []) rfl
  have lVV : lenL (VL b0 c0 z0 rs) = some rs.length := rfl
  have hpure : LV.pures [LV.agg (bys w)] = true := by simp only [LV.pures, LV.pure, hps, Bool.and_true]
  have hm : ∀ m, clF LP n_law07_Heap_made [.agg (bys w), .int .i64 4, .int .i64 5, .int .i64 9] m = some (.P, VL b0 c0 z0 rs, m) := hm
  have hof0 : ofAVs [.nilslice] = [.lst true true 0 0 []] := rfl
  have hof1 : ofAVs [.int .i64 0] = [.int .i64 0] := rfl
  have hof3 : ofAVs [.int .i64 0, .int .i64 0] = [.int .i64 0, .int .i64 0] := rfl
  have hcV : (VL b0 c0 z0 rs).cells = some [VL b0 c0 z0 rs] := rfl
  have hsV : LV.scalar (VL b0 c0 z0 rs) = true := rfl
  have hca : ∀ cs, (LV.agg cs).cells = some cs := fun _ => rfl
  have hci : ∀ n : Int, (LV.int .i64 n).cells = some [.int .i64 n] := fun _ => rfl
  have hsi : ∀ n : Int, LV.scalar (.int .i64 n) = true := fun _ => rfl
  obtain ⟨M2, hM2⟩ : ∃ M, M = M' ++ [(⟨[.int .i64 (((PX (vals rs) (mostV (vals rs))).headD (0, 0)).1 : Int), .int .i64 (((PX (vals rs) (mostV (vals rs))).headD (0, 0)).2 : Int)], true⟩ : LBlk)] := ⟨_, rfl⟩
  have s1 : (M' ++ [(⟨[.int .i64 0, .int .i64 0], true⟩ : LBlk)])[M'.length]? = some ⟨[.int .i64 0, .int .i64 0], true⟩ := by simp
  have s2 : (M' ++ [(⟨[.int .i64 0, .int .i64 0], true⟩ : LBlk)]).set M'.length ⟨[.int .i64 (((PX (vals rs) (mostV (vals rs))).headD (0, 0)).1 : Int), .int .i64 (((PX (vals rs) (mostV (vals rs))).headD (0, 0)).2 : Int)], true⟩ = M2 := by rw [hM2]; simp
  have r1 : M2[1]? = some ⟨[VL b0 c0 z0 rs], true⟩ := by rw [hM2, List.getElem?_append_left (by omega)]; exact q1
  have hdr : List.drop 2 [LV.int .i64 0, LV.int .i64 0] = [] := rfl
  clear hX hfunc hcap
  refine call_P lp_law07_ShareMost rfl hpure (m1 := M2) ?_ rfl []
  generalize (((PX (vals rs) (mostV (vals rs))).headD (0, 0)).1 : Int) = y1 at *
  generalize (((PX (vals rs) (mostV (vals rs))).headD (0, 0)).2 : Int) = y2 at *
  generalize judF (vals rs) (mostV (vals rs)) = J at *
  generalize CV (6 + t.length) L = cv at *
  generalize VL b0 c0 z0 rs = VV at *
  generalize bys w = ww at *
  generalize IL n1 e1 z1 (mostV (vals rs)) = lq at *
  simp (maxSteps := 1000000) only [law07_ShareMost, law07_ShareMost.B, law07_ShareMost.B.R0, law07_ShareMost.B.R1, law07_ShareMost.B.R2, law07_ShareMost.B.R3, law07_ShareMost.B.R4, beqT, beqF, exF_seq, exF_region, exF_block, exF_cond, exF_ret, exF_exit, exF_skip, runL, wantL, stepL, evL, evC, LEnv.at, putL, loadFine, loadL, cellsAt, Trk.putNew, Trk.up, Trk.touch, Trk.gives, Trk.calm, Trk.hit, opdsOf, Trk.fresh, LEnv.keep, LEnv.ofFrom, List.map_cons, List.map_nil, nbeq, nble, nblt, ofAV, ofAVs, bin_add, bin_sub, bin_mul, bin_eql, bin_neq, bin_lss, bin_leq, bin_gtr, bin_geq, natL_nat, natL_zero, natL_one, natL_two, Nat.zero_mul, List.any_cons, List.any_nil, Bool.or_false, Bool.false_or, Bool.true_or, Bool.or_true, Bool.and_true, Bool.true_and, Bool.and_false, Bool.false_and, Bool.not_true, Bool.not_false, Nat.reduceBEq, Nat.reduceEqDiff, decide_true, decide_false, cond_true, cond_false, List.filter_nil, List.filter_cons, Nat.reduceAdd, Nat.reduceLeDiff, reduceCtorEq, List.length_nil, List.length_cons, Nat.mul_one, if_true, if_false, Bool.false_eq_true, eq_self, and_true, true_and, retL, resultsL, resAllL, resOfL, List.append_nil, List.nil_append, List.cons_append, true_or, or_true, false_or, or_false, false_and, and_false, not_true_eq_false, not_false_eq_true, ne_eq, unL, trim_nil, views_pures, LV.pures, LV.pure, freeze, Nat.reduceDiv, Int.reduceEq, Int.reduceLT, Int.reduceLE, Int.natCast_zero, allocL, List.getElem?_cons_zero, List.getElem?_cons_succ, storeL, spliceL, List.take_zero, List.take_succ_cons, List.drop_zero, List.drop_succ_cons, List.drop_nil, List.take_nil, Nat.le_refl, Nat.reduceMul, List.set_cons_zero, List.set_cons_succ, List.all_cons, List.all_nil, Nat.lt_add_one, Nat.zero_lt_one, Nat.reduceLT, Nat.lt_irrefl, fillL, List.length_append, foldIntL, kind_beq, pures_int, solids_int, plains_int, unders_int, scalars_int, hbl, htk, hm, hof0, hof1, hof3, hcV, hsV, hca, hci, hsi, lVV, hw, hmost, q1, q2, hn1, hn2, hsame, hjud, s1, s2, hdr, r1, hfair, hbet, hj0, gt_iff_lt, works_c]
end Go.Am.Share

/-
  THE JOIN: arguments that came in, as the list machine's lists; what the list machine's answer says of the model's call.
-/
set_option linter.unusedVariables false
namespace Go.Am
variable [Glo]
open Go.RowKit

def Placed (ρ : PM) (b : Nat) (ps : List Place) : Prop := ∀ (i : Nat) (p : Place), ps[i]? = some p → ρ (b + i) = some p
def Shows (s : Sit) (b : Nat) (bl : List (List AV)) : Prop := ∀ (i : Nat) (cs : List AV), bl[i]? = some cs → s.A (b + i) ∧ s.am.look (b + i) = some ⟨cs, false⟩

/-- An argument that reads as a value of the list machine. -/
def ArgOk (w : World) (v : Value) (lv : LV) : Prop :=
  ∃ (bl : Nat → List (List AV)) (ps : List Place) (av : Nat → AV), (∀ b, (bl b).length = ps.length) ∧
    (∀ (ρ : PM) (b : Nat), Placed ρ b ps → VR ρ (av b) v ∧ ∀ (i : Nat) (cs : List AV) (p : Place), (bl b)[i]? = some cs → ps[i]? = some p → CellsAt ρ w cs p) ∧
    (∀ (s : Sit) (b : Nat), Shows s b (bl b) → LR s lv (av b))
inductive ArgsOk (w : World) : List Value → List LV → Prop
  | nil : ArgsOk w [] []
  | cons {v : Value} {lv : LV} {vs : List Value} {lvs : List LV} (h : ArgOk w v lv) (hr : ArgsOk w vs lvs) : ArgsOk w (v :: vs) (lv :: lvs)

omit [Glo] in
theorem append_get {α : Type} (a b : List α) (i : Nat) (x : α) (h : (a ++ b)[i]? = some x) : (i < a.length ∧ a[i]? = some x) ∨ (a.length ≤ i ∧ b[i - a.length]? = some x) := by
  by_cases hi : i < a.length
  · rw [List.getElem?_append_left hi] at h; exact .inl ⟨hi, h⟩
  · rw [List.getElem?_append_right (by omega)] at h; exact .inr ⟨by omega, h⟩

omit [Glo] in
theorem args_all {w : World} : ∀ {vs : List Value} {lvs : List LV}, ArgsOk w vs lvs → ∃ (bl : Nat → List (List AV)) (ps : List Place) (avs : Nat → List AV), (∀ b, (bl b).length = ps.length) ∧
    (∀ (ρ : PM) (b : Nat), Placed ρ b ps → VRs ρ (avs b) vs ∧ ∀ (i : Nat) (cs : List AV) (p : Place), (bl b)[i]? = some cs → ps[i]? = some p → CellsAt ρ w cs p) ∧
    (∀ (s : Sit) (b : Nat), Shows s b (bl b) → LRs s lvs (avs b))
  | _, _, .nil => ⟨fun _ => [], [], fun _ => [], fun _ => rfl, fun ρ b _ => ⟨.nil, fun i cs p h => by simp at h⟩, fun s b _ => .nil⟩
  | _, _, .cons h hr => by
    obtain ⟨bl1, ps1, av1, a1, a2, a3⟩ := h
    obtain ⟨bl2, ps2, av2, b1, b2, b3⟩ := args_all hr
    refine ⟨fun b => bl1 b ++ bl2 (b + ps1.length), ps1 ++ ps2, fun b => av1 b :: av2 (b + ps1.length), fun b => by simp [a1, b1], fun ρ b hp => ?_, fun s b hs => ?_⟩
    · have hp1 : Placed ρ b ps1 := fun i p h => hp i p (by rw [List.getElem?_append_left (List.getElem?_eq_some_iff.1 h).1]; exact h)
      have hp2 : Placed ρ (b + ps1.length) ps2 := fun i p h => by
        have := hp (ps1.length + i) p (by rw [List.getElem?_append_right (by omega)]; simpa using h)
        rw [Nat.add_assoc]; exact this
      obtain ⟨c1, c2⟩ := a2 ρ b hp1
      obtain ⟨d1, d2⟩ := b2 ρ _ hp2
      refine ⟨.cons c1 d1, fun i cs p hcs hpp => ?_⟩
      rcases append_get _ _ _ _ hcs with ⟨e1, e2⟩ | ⟨e1, e2⟩
      · rw [a1] at e1
        rw [List.getElem?_append_left e1] at hpp
        exact c2 i cs p e2 hpp
      · rw [a1] at e1 e2
        rw [List.getElem?_append_right e1] at hpp
        exact d2 _ cs p e2 hpp
    · refine .cons (a3 s b fun i cs h => hs i cs (by rw [List.getElem?_append_left (List.getElem?_eq_some_iff.1 h).1]; exact h)) (b3 s _ fun i cs h => ?_)
      have := hs (ps1.length + i) cs (by rw [List.getElem?_append_right (by rw [a1]; omega)]; rw [a1]; simpa using h)
      rw [Nat.add_assoc]; exact this

/-- Where the package-level variables lie. -/
def gPlaces (n : Nat) : List Place := (List.range n).map fun g => ⟨g, 0, 0⟩
omit [Glo] in
theorem gPlaces_get {n g : Nat} {p : Place} (h : (gPlaces n)[g]? = some p) : p = ⟨g, 0, 0⟩ := by
  unfold gPlaces at h
  rw [List.getElem?_map] at h
  obtain ⟨x, hx, rfl⟩ := Option.map_eq_some_iff.1 h
  have hg := (List.getElem?_eq_some_iff.1 hx).1
  simp at hg
  rw [List.getElem?_range hg] at hx
  cases hx; rfl

/-- WHAT A LAW's WALK ASKS OF THE LIST MACHINE. -/
theorem law_glob {P : Program} {C : Prog} {LP : LProg} (hC : ProgOk C P) (hmix : P.follows .mixedOrders = true) (hL : ProgL LP C) {f : Nat} {lvs : List LV} {md : Mode} {m' : LMem} (h : clF LP f lvs [] = some (md, .bool true, m'))
    {w : World} {cargs : Array Value} (ha : ArgsOk w cargs.toList lvs) (gb : List (List AV)) (hgb : gb.length = P.globals.size) (hT : ∀ g l, Glo.tab g = some l → gb[g]? = some l) (hcell : ∀ (ρ : PM) (g : Nat) (cs : List AV), gb[g]? = some cs → CellsAt ρ w cs ⟨g, 0, 0⟩) :
    Calls P f cargs w fun e w' => e = .returned (.bool true) ∧ Below w.heap.size w w' := by
  obtain ⟨bl, ps, avs, h1, h2, h3⟩ := args_all ha
  obtain ⟨n, hn⟩ := clF_some.1 h
  generalize hN : gb.length = N at hgb
  generalize hall : gb ++ bl N = all
  have hget : ∀ (i : Nat) (cs : List AV), (bl N)[i]? = some cs → all[N + i]? = some cs := fun i cs hi => by
    rw [← hall, List.getElem?_append_right (by omega), hN, Nat.add_sub_cancel_left]; exact hi
  have hs : Shows ⟨[], memOf all, fun _ => 0, fun b => b < all.length⟩ N (bl N) := fun i cs hi =>
    ⟨(List.getElem?_eq_some_iff.1 (hget i cs hi)).1, by show (memOf all).look (N + i) = _; rw [memOf_look, hget i cs hi]; rfl⟩
  have hrel : Rel2 ⟨[], memOf all, fun _ => 0, fun b => b < all.length⟩ := by
    refine ⟨fun i b hb => by simp at hb, fun i j b b' hb => by simp at hb, fun b hb => ?_, fun b ab hb => ?_, fun g l hg => ?_⟩
    · have hb : b < all.length := hb
      exact ⟨⟨all[b], false⟩, by show (memOf all).look b = _; rw [memOf_look, List.getElem?_eq_getElem hb]; rfl⟩
    · have hb : (memOf all).look b = some ab := hb
      show b < (memOf all).next
      rw [memOf_next]
      rw [memOf_look] at hb
      obtain ⟨x, hx, _⟩ := Option.map_eq_some_iff.1 hb
      exact (List.getElem?_eq_some_iff.1 hx).1
    · have e : all[g]? = some l := by
        have := hT g l hg
        rw [← hall, List.getElem?_append_left (List.getElem?_eq_some_iff.1 this).1]; exact this
      exact ⟨(List.getElem?_eq_some_iff.1 e).1, by show (memOf all).look g = _; rw [memOf_look, e]; rfl⟩
  obtain ⟨av, am', h4, t, _, _, _, _, h5, _⟩ := callL_sound hL n f lvs [] md (.bool true) m' hn _ (avs N) rfl hrel (h3 _ N hs)
  cases h5
  generalize hpl : gPlaces N ++ ps = pl
  have hgl : (gPlaces N).length = N := by simp [gPlaces]
  have hplaced : Placed (placesOf pl) N ps := fun i p hp => by
    show pl[N + i]? = some p
    rw [← hpl, List.getElem?_append_right (by omega), hgl, Nat.add_sub_cancel_left]; exact hp
  obtain ⟨h6, h7⟩ := h2 (placesOf pl) N hplaced
  refine law_calls hC hmix (l := all) (ps := pl) h4 (by rw [← hall, ← hpl, List.length_append, List.length_append, h1, hgl, hN]) (fun i cs p hcs hp => ?_) h6 fun g hg => ?_
  · rw [← hall] at hcs
    rw [← hpl] at hp
    rcases append_get _ _ _ _ hcs with ⟨e1, e2⟩ | ⟨e1, e2⟩
    · rw [List.getElem?_append_left (by omega)] at hp
      rw [gPlaces_get hp]
      exact hcell _ i cs e2
    · rw [List.getElem?_append_right (by omega), hgl] at hp
      rw [hN] at e2
      exact h7 _ cs p e2 hp
  · have hg : g < N := by omega
    refine ⟨⟨g, 0, 0⟩, ?_, rfl, rfl⟩
    show pl[g]? = _
    rw [← hpl, List.getElem?_append_left (by omega)]
    simp [gPlaces, hg]

theorem law_list {P : Program} {C : Prog} {LP : LProg} (hC : ProgOk C P) (hmix : P.follows .mixedOrders = true) (hL : ProgL LP C) {f : Nat} {lvs : List LV} {md : Mode} {m' : LMem} (h : clF LP f lvs [] = some (md, .bool true, m')) (hG : P.globals.size = 0) (hT : ∀ g, Glo.tab g = none)
    {w : World} {cargs : Array Value} (ha : ArgsOk w cargs.toList lvs) : Calls P f cargs w fun e w' => e = .returned (.bool true) ∧ Below w.heap.size w w' :=
  law_glob hC hmix hL h ha [] (by simp [hG]) (fun g l hg => by rw [hT g] at hg; cases hg) (fun ρ g cs hg => by simp at hg)
end Go.Am

/-
  THE JOIN, 2: lists of numbers, and lists of lists, that came in.
-/
set_option linter.unusedVariables false
namespace Go.Am
variable [Glo]
open Go.ChangeShapes Go.RowKit Go.Deep

end Go.Am

/-
  THE JOIN, 3: arguments read behind the call as before it.
-/
set_option linter.unusedVariables false
namespace Go.Am
variable [Glo]
open Go.RowKit
omit [Glo] in
theorem trodAll_below {H : Type} {enc : TypeId × Value → H} {P : Program} {W W' : World} (hl : laidOutB P = true) (hb : Below W.heap.size W W') : ∀ {ts : List TypeId} {vs : List Value} {ds : List (DataW H)} {ps : List MemPlace}, (ts.all fun t => P.readableRec t && decide (t < P.types.size)) = true →
    DataW.TrodAll enc P W 0 (fun _ => true) true ts vs ds ps → (∀ x ∈ ps, x.block < W.heap.size) → DataW.TrodAll enc P W' 0 (fun b => decide (b < W.heap.size)) true ts vs ds ps
  | [], [], [], _, _, h, _ => h
  | t :: ts, v :: vs, d :: ds, ps, hr, ⟨p, q, h1, h2, e⟩, hlt => by
    simp only [List.all_cons, Bool.and_eq_true, decide_eq_true_eq] at hr
    subst e
    exact ⟨p, q, Below.trod hl hr.1.1 hr.1.2 h1 hb (fun x hx => hlt x (List.mem_append_left _ hx)), trodAll_below hl hb hr.2 h2 (fun x hx => hlt x (List.mem_append_right _ hx)), rfl⟩
end Go.Am

/-
  THE JOIN, 4: structs of bytes that came in.
-/
set_option linter.unusedVariables false
namespace Go.Am
variable [Glo]
open Go.RowKit

/-! ### Types that hold bytes alone -/
def sumPc : Nat → List (Nat × Nat) → Option Nat
  | off, [] => some off
  | off, (o, k) :: r => cond (Nat.beq o off) (sumPc (off + k) r) none
def pcsF (P : Program) (g : TypeId → Option Nat) : List Field → Option (List (Nat × Nat))
  | [] => some []
  | f :: r => match g f.type with
    | some k => match pcsF P g r with
      | some l => cond (Nat.beq (P.cellsOf f.type) k) (some ((f.offset, k) :: l)) none
      | none => none
    | none => none
/-- How many bytes. -/
def u8T (P : Program) : Nat → TypeId → Option Nat
  | 0, _ => none
  | n + 1, t => match P.underlying t with
    | some (.int .u8) => some 1
    | some (.array m e) => match u8T P n e with
      | some k => cond (Nat.beq (P.cellsOf e) k && Nat.beq (P.cellsOf t) (m * k)) (some (m * k)) none
      | none => none
    | some (.struct fs) => match pcsF P (u8T P n) fs.toList with
      | some l => match sumPc 0 l with
        | some k => cond (Nat.beq (P.cellsOf t) k) (some k) none
        | none => none
      | none => none
    | _ => none
def U8s (cs : List Value) : Prop := ∀ (i : Nat) (v : Value), cs[i]? = some v → ∃ n : Int, v = .int .u8 n ∧ (Lit.int .u8 n).wf = true

omit [Glo] in
theorem sumPc_in : ∀ (l : List (Nat × Nat)) (off tot : Nat), sumPc off l = some tot → ∀ i, off ≤ i → i < tot → ∃ p ∈ l, p.1 ≤ i ∧ i < p.1 + p.2
  | [], off, tot, h, i, h1, h2 => by simp only [sumPc, Option.some.injEq] at h; omega
  | (o, k) :: r, off, tot, h, i, h1, h2 => by
    simp only [sumPc] at h
    cases c : Nat.beq o off <;> rw [c] at h
    · cases h
    · have e : o = off := by simpa using c
      subst e
      by_cases hi : i < o + k
      · exact ⟨(o, k), by simp, h1, hi⟩
      · obtain ⟨p, hp, h3⟩ := sumPc_in r _ _ h i (by omega) h2
        exact ⟨p, by simp [hp], h3⟩
omit [Glo] in
theorem pcsF_in {P : Program} {g : TypeId → Option Nat} : ∀ (fs : List Field) (l : List (Nat × Nat)), pcsF P g fs = some l → ∀ p ∈ l, ∃ (i : Nat) (f : Field), fs[i]? = some f ∧ f.offset = p.1 ∧ g f.type = some p.2 ∧ P.cellsOf f.type = p.2
  | [], l, h, p, hp => by simp only [pcsF, Option.some.injEq] at h; subst h; cases hp
  | f :: r, l, h, p, hp => by
    simp only [pcsF] at h
    split at h
    · rename_i k hk
      split at h
      · rename_i l' hl'
        cases c : Nat.beq (P.cellsOf f.type) k <;> rw [c] at h
        · cases h
        · simp only [cond_true, Option.some.injEq] at h
          subst h
          rcases List.mem_cons.1 hp with rfl | hp
          · exact ⟨0, f, rfl, rfl, hk, by simpa using c⟩
          · obtain ⟨i, f', h1, h2⟩ := pcsF_in r l' hl' p hp
            exact ⟨i + 1, f', by simpa using h1, h2⟩
      · cases h
    · cases h

section
variable {H : Type} {enc : TypeId × Value → H} {P : Program} {w : World} {base : Nat} {sp : Nat → Bool} {held : Bool}
omit [Glo] in
theorem u8T_ok : ∀ (n : Nat) (t : TypeId) (fuel : Nat) (cs : List Value) (x : DataW H × List MemPlace) (k : Nat), u8T P n t = some k → DataW.trod enc P w base sp held fuel t cs = some x → U8s cs ∧ cs.length = k
  | 0, _, _, _, _, _, h, _ => by cases h
  | n + 1, t, fuel, cs, x, k, h, hx => by
    simp only [u8T] at h
    split at h
    · rename_i ht
      cases h
      obtain ⟨a, rfl, _, hw⟩ := DataW.trod_int ht hx
      refine ⟨fun i v hv => ?_, rfl⟩
      match i with
      | 0 => simp at hv; subst hv; exact ⟨a, rfl, hw⟩
      | i + 1 => simp at hv
    · rename_i m e ht
      split at h
      · rename_i k' hk'
        cases c : (Nat.beq (P.cellsOf e) k' && Nat.beq (P.cellsOf t) (m * k')) <;> rw [c] at h
        · cases h
        · simp only [cond_true, Option.some.injEq] at h
          subst h
          simp only [Bool.and_eq_true] at c
          have c1 : P.cellsOf e = k' := by simpa using c.1
          have c2 : P.cellsOf t = m * k' := by simpa using c.2
          obtain ⟨xs, m', _, _, hl, hxl, hf⟩ := DataW.trod_array ht hx
          rw [c2] at hl
          refine ⟨fun i v hv => ?_, hl⟩
          have hi : i < m * k' := by rw [← hl]; exact (List.getElem?_eq_some_iff.1 hv).1
          have hk0 : 0 < k' := by
            rcases Nat.eq_zero_or_pos k' with e0 | e0
            · rw [e0] at hi; simp at hi
            · exact e0
          have h1 : i / k' < m := (Nat.div_lt_iff_lt_mul hk0).2 hi
          have h2 : i % k' < k' := Nat.mod_lt _ hk0
          have h3 : (i / k') * k' + i % k' = i := by rw [Nat.mul_comm]; exact Nat.div_add_mod i k'
          have h4 := hf (i / k') h1
          rw [c1] at h4
          obtain ⟨y, hy⟩ : ∃ y, xs[i / k']? = some y := ⟨xs[i / k']'(by omega), List.getElem?_eq_getElem (by omega)⟩
          rw [hy] at h4
          obtain ⟨h5, _⟩ := u8T_ok n e m' _ y k' hk' h4
          refine h5 (i % k') v ?_
          rw [List.getElem?_take, if_pos h2, List.getElem?_drop, h3]
          exact hv
      · cases h
    · rename_i fs ht
      split at h
      · rename_i l hl'
        split at h
        · rename_i k' hk'
          cases c : Nat.beq (P.cellsOf t) k' <;> rw [c] at h
          · cases h
          · simp only [cond_true, Option.some.injEq] at h
            subst h
            have c2 : P.cellsOf t = k' := by simpa using c
            obtain ⟨xs, m', _, _, hl, hxl, hf⟩ := DataW.trod_struct ht hx
            rw [c2] at hl
            refine ⟨fun i v hv => ?_, hl⟩
            have hi : i < k' := by rw [← hl]; exact (List.getElem?_eq_some_iff.1 hv).1
            obtain ⟨p, hp, p1, p2⟩ := sumPc_in l 0 k' hk' i (Nat.zero_le _) hi
            obtain ⟨j, f, f1, f2, f3, f4⟩ := pcsF_in _ _ hl' p hp
            have f1' : fs[j]? = some f := by simpa using f1
            have hj : j < fs.size := (Array.getElem?_eq_some_iff.1 f1').1
            have h4 := hf j f f1'
            rw [f4, f2] at h4
            obtain ⟨y, hy⟩ : ∃ y, xs[j]? = some y := ⟨xs[j]'(by omega), List.getElem?_eq_getElem (by omega)⟩
            rw [hy] at h4
            obtain ⟨h5, _⟩ := u8T_ok n f.type m' _ y p.2 f3 h4
            refine h5 (i - p.1) v ?_
            rw [List.getElem?_take, if_pos (by omega), List.getElem?_drop, show p.1 + (i - p.1) = i by omega]
            exact hv
        · cases h
      · cases h
    · cases h

omit [Glo] in
theorem u8s_list : ∀ {cs : List Value}, U8s cs → ∃ ns : List Int, cs = ns.map (Value.int .u8) ∧ ∀ n ∈ ns, 0 ≤ n ∧ n < 256
  | [], _ => ⟨[], rfl, by simp⟩
  | v :: r, h => by
    obtain ⟨n, rfl, hw⟩ := h 0 v rfl
    obtain ⟨ns, e, hb⟩ := u8s_list (cs := r) fun i v hv => h (i + 1) v (by simpa using hv)
    refine ⟨n :: ns, by rw [e]; rfl, ?_⟩
    intro x hx
    rcases List.mem_cons.1 hx with rfl | hx
    · have := bounds_u8 hw; omega
    · exact hb x hx

omit [Glo] in
theorem argOk_bytes (w : World) (ns : List Int) : ArgOk w (.agg (ns.map (Value.int .u8)).toArray) (.agg (ns.map (LV.int .u8))) := by
  refine ⟨fun _ => [], [], fun _ => .agg (ns.map (AV.int .u8)), fun _ => rfl, fun ρ b _ => ⟨.agg ?_, fun i cs p h => by simp at h⟩, fun s b _ => .agg ?_⟩
  · show VRs ρ _ (ns.map (Value.int .u8)).toArray.toList
    simp only []
    induction ns with
    | nil => exact .nil
    | cons n r ih => exact .cons (.int _ _) ih
  · exact LRs.map _ fun x _ => .int _ _

omit [Glo] in
/-- A struct of bytes among the arguments. -/
theorem argOk_struct {r : Reach} {b0 n k : Nat} {t : TypeId} {fs : Array Field} {v : Value} {d : DataW H} {ps : List MemPlace} (ht : P.underlying t = some (.struct fs)) (hk : u8T P n t = some k)
    (hval : Value.okWide P w r b0 t v) (hd : DataW.Trod enc P w base sp held t v d ps) :
    ∃ ns : List Int, ns.length = k ∧ (∀ n ∈ ns, 0 ≤ n ∧ n < 256) ∧ ArgOk w v (.agg (ns.map (LV.int .u8))) := by
  obtain ⟨cs, rfl, _⟩ := Go.WideShapes.okWide_struct ht hval
  obtain ⟨fuel, hf⟩ := hd
  obtain ⟨h1, h2⟩ := u8T_ok n t fuel _ _ k hk hf
  obtain ⟨ns, e, hb⟩ := u8s_list h1
  have e' : cs = (ns.map (Value.int .u8)).toArray := by
    apply Array.ext'
    simpa [Value.cells] using e
  subst e'
  refine ⟨ns, ?_, hb, argOk_bytes w ns⟩
  simpa [Value.cells] using h2
end
end Go.Am


