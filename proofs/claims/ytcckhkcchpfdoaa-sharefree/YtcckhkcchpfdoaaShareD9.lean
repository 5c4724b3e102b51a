import Derived.Test.YtcckhkcchpfdoaaShareD5
import Derived.Test.YtcckhkcchpfdoaaLm10
import Derived.Test.YtcckhkcchpfdoaaAm17
import Derived.Below
import Derived.ChangeSlices
import Derived.Deep.Matrix
import Derived.OpenShut
import Derived.Carry
/-
  What functions of chapter 07 compute, outright 9: the law 'ShareFree'.
-/
set_option linter.unusedVariables false
set_option linter.unusedSimpArgs false
set_option maxRecDepth 10000
set_option maxHeartbeats 400000
namespace Go.Am.Share
open Go.Am.G

theorem freeR0 (V0 V3 V4 V5 : LV) (F P : Bool) (n : Nat) (m : LMem) (b2 : Nat) (hm2 : m[b2]? = some ⟨[.int .i64 (n : Int)], true⟩) (h1 : F = true → P = true) (h2 : n = 2 → P = F) :
    exF LP law07_ShareFree_1.B.R0 [(0, V0), (2, .ptr b2 0 1), (3, V3), (4, V4), (5, V5), (8, .bool P), (9, .bool F)] m = some (.normal, [(0, V0), (3, V3), (4, V4), (5, V5), (9, .bool F), (82, .bool false)], m) := by
  have hmb : ¬ m.length ≤ b2 := by have := (List.getElem?_eq_some_iff.1 hm2).1; omega
  by_cases c : n = 2
  · have := h2 c
    subst this
    have c' : ((n : Int) = 2) := by omega
    cases P <;> simp (maxSteps := 1000000) only [law07_ShareFree_1.B.R0, beqT, beqF, exF_seq, exF_region, exF_block, exF_cond, exF_ret, exF_exit, exF_skip, runL, wantL, stepL, evL, evC, LEnv.at, putL, loadFine, loadL, cellsAt, Trk.putNew, Trk.up, Trk.touch, Trk.gives, Trk.calm, Trk.hit, opdsOf, Trk.fresh, LEnv.keep, LEnv.ofFrom, List.map_cons, List.map_nil, nbeq, nble, nblt, ofAV, ofAVs, lenL, bin_add, bin_sub, bin_mul, bin_eql, bin_neq, bin_lss, bin_leq, bin_gtr, bin_geq, natL_nat, natL_zero, natL_one, natL_two, Nat.zero_mul, List.any_cons, List.any_nil, Bool.or_false, Bool.false_or, Bool.true_or, Bool.or_true, Bool.and_true, Bool.true_and, Bool.and_false, Bool.false_and, Bool.not_true, Bool.not_false, Nat.reduceBEq, Nat.reduceEqDiff, decide_true, decide_false, cond_true, cond_false, List.filter_nil, List.filter_cons, Nat.reduceAdd, Nat.reduceLeDiff, reduceCtorEq, List.length_nil, List.length_cons, Nat.mul_one, if_true, if_false, Bool.false_eq_true, eq_self, and_true, true_and, retL, resultsL, resAllL, resOfL, List.append_nil, List.nil_append, List.cons_append, true_or, or_true, false_or, or_false, false_and, and_false, not_true_eq_false, not_false_eq_true, ne_eq, unL, trim_nil, views_pures, LV.pures, LV.pure, freeze, Nat.reduceDiv, Int.reduceEq, Int.reduceLT, Int.reduceLE, Int.natCast_zero, LV.cells, allocL, List.getElem?_cons_zero, List.getElem?_cons_succ, storeL, spliceL, List.take_zero, List.take_succ_cons, List.drop_zero, List.drop_succ_cons, List.drop_nil, List.take_nil, Nat.le_refl, Nat.reduceMul, List.set_cons_zero, List.set_cons_succ, LV.scalar, List.all_cons, List.all_nil, Nat.lt_add_one, Nat.zero_lt_one, Nat.reduceLT, Nat.lt_irrefl, fillL, List.length_append, foldIntL, kind_beq, pures_int, solids_int, plains_int, unders_int, scalars_int, hm2, hmb, c', Bool.true_xor, Bool.false_xor]
  · have c' : ¬ ((n : Int) = 2) := by omega
    cases F
    · cases P <;> simp (maxSteps := 1000000) only [law07_ShareFree_1.B.R0, beqT, beqF, exF_seq, exF_region, exF_block, exF_cond, exF_ret, exF_exit, exF_skip, runL, wantL, stepL, evL, evC, LEnv.at, putL, loadFine, loadL, cellsAt, Trk.putNew, Trk.up, Trk.touch, Trk.gives, Trk.calm, Trk.hit, opdsOf, Trk.fresh, LEnv.keep, LEnv.ofFrom, List.map_cons, List.map_nil, nbeq, nble, nblt, ofAV, ofAVs, lenL, bin_add, bin_sub, bin_mul, bin_eql, bin_neq, bin_lss, bin_leq, bin_gtr, bin_geq, natL_nat, natL_zero, natL_one, natL_two, Nat.zero_mul, List.any_cons, List.any_nil, Bool.or_false, Bool.false_or, Bool.true_or, Bool.or_true, Bool.and_true, Bool.true_and, Bool.and_false, Bool.false_and, Bool.not_true, Bool.not_false, Nat.reduceBEq, Nat.reduceEqDiff, decide_true, decide_false, cond_true, cond_false, List.filter_nil, List.filter_cons, Nat.reduceAdd, Nat.reduceLeDiff, reduceCtorEq, List.length_nil, List.length_cons, Nat.mul_one, if_true, if_false, Bool.false_eq_true, eq_self, and_true, true_and, retL, resultsL, resAllL, resOfL, List.append_nil, List.nil_append, List.cons_append, true_or, or_true, false_or, or_false, false_and, and_false, not_true_eq_false, not_false_eq_true, ne_eq, unL, trim_nil, views_pures, LV.pures, LV.pure, freeze, Nat.reduceDiv, Int.reduceEq, Int.reduceLT, Int.reduceLE, Int.natCast_zero, LV.cells, allocL, List.getElem?_cons_zero, List.getElem?_cons_succ, storeL, spliceL, List.take_zero, List.take_succ_cons, List.drop_zero, List.drop_succ_cons, List.drop_nil, List.take_nil, Nat.le_refl, Nat.reduceMul, List.set_cons_zero, List.set_cons_succ, LV.scalar, List.all_cons, List.all_nil, Nat.lt_add_one, Nat.zero_lt_one, Nat.reduceLT, Nat.lt_irrefl, fillL, List.length_append, foldIntL, kind_beq, pures_int, solids_int, plains_int, unders_int, scalars_int, hm2, hmb, c', Bool.true_xor, Bool.false_xor]
    · obtain rfl := h1 rfl
      simp (maxSteps := 1000000) only [law07_ShareFree_1.B.R0, beqT, beqF, exF_seq, exF_region, exF_block, exF_cond, exF_ret, exF_exit, exF_skip, runL, wantL, stepL, evL, evC, LEnv.at, putL, loadFine, loadL, cellsAt, Trk.putNew, Trk.up, Trk.touch, Trk.gives, Trk.calm, Trk.hit, opdsOf, Trk.fresh, LEnv.keep, LEnv.ofFrom, List.map_cons, List.map_nil, nbeq, nble, nblt, ofAV, ofAVs, lenL, bin_add, bin_sub, bin_mul, bin_eql, bin_neq, bin_lss, bin_leq, bin_gtr, bin_geq, natL_nat, natL_zero, natL_one, natL_two, Nat.zero_mul, List.any_cons, List.any_nil, Bool.or_false, Bool.false_or, Bool.true_or, Bool.or_true, Bool.and_true, Bool.true_and, Bool.and_false, Bool.false_and, Bool.not_true, Bool.not_false, Nat.reduceBEq, Nat.reduceEqDiff, decide_true, decide_false, cond_true, cond_false, List.filter_nil, List.filter_cons, Nat.reduceAdd, Nat.reduceLeDiff, reduceCtorEq, List.length_nil, List.length_cons, Nat.mul_one, if_true, if_false, Bool.false_eq_true, eq_self, and_true, true_and, retL, resultsL, resAllL, resOfL, List.append_nil, List.nil_append, List.cons_append, true_or, or_true, false_or, or_false, false_and, and_false, not_true_eq_false, not_false_eq_true, ne_eq, unL, trim_nil, views_pures, LV.pures, LV.pure, freeze, Nat.reduceDiv, Int.reduceEq, Int.reduceLT, Int.reduceLE, Int.natCast_zero, LV.cells, allocL, List.getElem?_cons_zero, List.getElem?_cons_succ, storeL, spliceL, List.take_zero, List.take_succ_cons, List.drop_zero, List.drop_succ_cons, List.drop_nil, List.take_nil, Nat.le_refl, Nat.reduceMul, List.set_cons_zero, List.set_cons_succ, LV.scalar, List.all_cons, List.all_nil, Nat.lt_add_one, Nat.zero_lt_one, Nat.reduceLT, Nat.lt_irrefl, fillL, List.length_append, foldIntL, kind_beq, pures_int, solids_int, plains_int, unders_int, scalars_int, hm2, hmb, c', Bool.true_xor, Bool.false_xor]
def fnd (L : Nat) : List (List Int) → LV
  | [] => .lst true true 0 0 []
  | _ :: _ => CV 7 L
def fblk (L : Nat) : List (List Int) → LMem
  | [] => []
  | q :: _ => if L = 0 then [] else [⟨ints q, true⟩]
def fow (L : Nat) (fs : List (List Int)) : Bool := fs.isEmpty || decide (L ≠ 0)
def FMf (w : LBlk) (VV : LV) (n L : Nat) (fs : List (List Int)) (o : List Int) : LMem :=
  [w, ⟨[VV], true⟩, ⟨[.int .i64 (n : Int)], true⟩, ⟨[fnd L fs], true⟩, ⟨[.int .i64 (fs.length : Int)], true⟩, ⟨[.bool true], true⟩, ⟨ints o, fow L fs⟩] ++ fblk L fs
section
variable (w : LBlk) (b0 c0 : Bool) (z0 : Nat) {rs : List Row}
theorem free1_w {L : Nat} {o : List Int} (D : LOk rs o) (ho : o.length = L) (fs : List (List Int)) (hf : fs.length < 100000) :
    clF LP n_law07_ShareFree_1 [SLo 6 L, .ptr 1 0 1, .ptr 2 0 1, .ptr 5 0 1, .ptr 4 0 1, .ptr 3 0 1] (FMf w (VL b0 c0 z0 rs) rs.length L fs o) = some (.W, .tup [], FMf w (VL b0 c0 z0 rs) rs.length L (if fairI (vals rs) o then fs ++ [o] else fs) o) := by
  have h6 := D.le6
  have hvl := vals_length rs
  have hFI := fairW_fairI (vals rs) o
  have hFP := fair_part (vals rs) o
  have hPF := part_fair (vals rs) o
  rw [hvl] at hFI hFP hPF
  rw [hFI] at hFP hPF
  have hwm := worths_m b0 c0 z0 D (m := FMf w (VL b0 c0 z0 rs) rs.length L fs o) (i := 6) (b := fow L fs) rfl ho
  have hlo := freeO_loop D (SLo 6 L) (.ptr 5 0 1) (.ptr 4 0 1) (.ptr 3 0 1) (FMf w (VL b0 c0 z0 rs) rs.length L fs o) 2 [] rfl rs.length 0 true true (by omega)
  rw [Int.natCast_zero, Bool.true_and, Bool.true_and, hFI] at hlo
  have r0 := freeR0 (SLo 6 L) (.ptr 5 0 1) (.ptr 4 0 1) (.ptr 3 0 1) (fairI (vals rs) o) (partW (vals rs) o 0 rs.length) rs.length (FMf w (VL b0 c0 z0 rs) rs.length L fs o) 2 rfl hFP hPF
  have g1 : (FMf w (VL b0 c0 z0 rs) rs.length L fs o)[1]? = some ⟨[VL b0 c0 z0 rs], true⟩ := rfl
  have g4 : (FMf w (VL b0 c0 z0 rs) rs.length L fs o)[4]? = some ⟨[.int .i64 (fs.length : Int)], true⟩ := rfl
  have lW : lenL (VL false true 1 (WR (vals rs) o)) = some rs.length := by show some (WR (vals rs) o).length = _; rw [WR_len, hvl]
  have hcw : ∀ (e : LEnv) (m1 : LMem), exF LP law07_ShareFree_1.body (LEnv.ofFrom 0 [SLo 6 L, .ptr 1 0 1, .ptr 2 0 1, .ptr 5 0 1, .ptr 4 0 1, .ptr 3 0 1]) (FMf w (VL b0 c0 z0 rs) rs.length L fs o) = some (.normal, e, m1) → clF LP n_law07_ShareFree_1 [SLo 6 L, .ptr 1 0 1, .ptr 2 0 1, .ptr 5 0 1, .ptr 4 0 1, .ptr 3 0 1] (FMf w (VL b0 c0 z0 rs) rs.length L fs o) = some (.W, .tup [], trim (FMf w (VL b0 c0 z0 rs) rs.length L fs o).length [.tup []] m1) := fun e m1 h => call_W (v := .tup []) (m1 := m1) lp_law07_ShareFree_1 rfl (by rw [h]; rfl)
  have hmono : True := trivial
  cases hF : fairI (vals rs) o
  · rw [hF] at hlo r0
    rw [hcw [(0, SLo 6 L), (4, .ptr 4 0 1), (5, .ptr 3 0 1), (83, .bool false)] (FMf w (VL b0 c0 z0 rs) rs.length L fs o) ?_, trim_le _ _ _ (Nat.le_refl _)]
    · simp
    · generalize FMf w (VL b0 c0 z0 rs) rs.length L fs o = M at *
      generalize VL false true 1 (WR (vals rs) o) = VW at *
      generalize partW (vals rs) o 0 rs.length = P at *
      simp (maxSteps := 1000000) only [law07_ShareFree_1, law07_ShareFree_1.B, beqT, beqF, exF_seq, exF_region, exF_block, exF_cond, exF_ret, exF_exit, exF_skip, runL, wantL, stepL, evL, evC, LEnv.at, putL, loadFine, loadL, cellsAt, Trk.putNew, Trk.up, Trk.touch, Trk.gives, Trk.calm, Trk.hit, opdsOf, Trk.fresh, LEnv.keep, LEnv.ofFrom, List.map_cons, List.map_nil, nbeq, nble, nblt, ofAV, ofAVs, bin_add, bin_sub, bin_mul, bin_eql, bin_neq, bin_lss, bin_leq, bin_gtr, bin_geq, natL_nat, natL_zero, natL_one, natL_two, Nat.zero_mul, List.any_cons, List.any_nil, Bool.or_false, Bool.false_or, Bool.true_or, Bool.or_true, Bool.and_true, Bool.true_and, Bool.and_false, Bool.false_and, Bool.not_true, Bool.not_false, Nat.reduceBEq, Nat.reduceEqDiff, decide_true, decide_false, cond_true, cond_false, List.filter_nil, List.filter_cons, Nat.reduceAdd, Nat.reduceLeDiff, reduceCtorEq, List.length_nil, List.length_cons, Nat.mul_one, if_true, if_false, Bool.false_eq_true, eq_self, and_true, true_and, retL, resultsL, resAllL, resOfL, List.append_nil, List.nil_append, List.cons_append, true_or, or_true, false_or, or_false, false_and, and_false, not_true_eq_false, not_false_eq_true, ne_eq, unL, trim_nil, views_pures, LV.pures, LV.pure, freeze, Nat.reduceDiv, Int.reduceEq, Int.reduceLT, Int.reduceLE, Int.natCast_zero, LV.cells, allocL, List.getElem?_cons_zero, List.getElem?_cons_succ, storeL, spliceL, List.take_zero, List.take_succ_cons, List.drop_zero, List.drop_succ_cons, List.drop_nil, List.take_nil, Nat.le_refl, Nat.reduceMul, List.set_cons_zero, List.set_cons_succ, LV.scalar, List.all_cons, List.all_nil, Nat.lt_add_one, Nat.zero_lt_one, Nat.reduceLT, Nat.lt_irrefl, fillL, List.length_append, foldIntL, kind_beq, pures_int, solids_int, plains_int, unders_int, scalars_int, g1, hwm, lW, hlo, r0]
  · rw [hF] at hlo r0
    simp only [if_true]
    cases fs with
    | nil =>
      have hcl := clone_m (g := 0) (m := FMf w (VL b0 c0 z0 rs) rs.length L [] o) (i := 6) (b := true) (o := o) rfl ho (by omega)
      have hlen7 : (FMf w (VL b0 c0 z0 rs) rs.length L [] o).length = 7 := rfl
      rw [hlen7] at hcl
      have hcv : (CV 7 L).cells = some [CV 7 L] := by unfold CV; split <;> rfl
      have hcs : LV.scalar (CV 7 L) = true := by unfold CV; split <;> rfl
      have key : (if L = 0 then freeze [6] (FMf w (VL b0 c0 z0 rs) rs.length L [] o) else FMf w (VL b0 c0 z0 rs) rs.length L [] o ++ [⟨ints o, true⟩]) = [w, ⟨[VL b0 c0 z0 rs], true⟩, ⟨[.int .i64 (rs.length : Int)], true⟩, ⟨[.lst true true 0 0 []], true⟩, ⟨[.int .i64 0], true⟩, ⟨[.bool true], true⟩, ⟨ints o, decide (L ≠ 0)⟩] ++ fblk L [o] := by
        by_cases h : L = 0
        · rw [if_pos h]
          simp [FMf, fnd, fblk, fow, h, freeze, freeze1]
        · rw [if_neg h]
          simp [FMf, fnd, fblk, fow, h]
      rw [key] at hcl
      have hres : ([w, ⟨[VL b0 c0 z0 rs], true⟩, ⟨[.int .i64 (rs.length : Int)], true⟩, ⟨[CV 7 L], true⟩, ⟨[.int .i64 1], true⟩, ⟨[.bool true], true⟩, ⟨ints o, decide (L ≠ 0)⟩] ++ fblk L [o] : LMem) = FMf w (VL b0 c0 z0 rs) rs.length L ([] ++ [o]) o := by
        simp [FMf, fnd, fow]
      rw [← hres]
      have htr : trim (FMf w (VL b0 c0 z0 rs) rs.length L [] o).length [.tup []] ([w, ⟨[VL b0 c0 z0 rs], true⟩, ⟨[.int .i64 (rs.length : Int)], true⟩, ⟨[CV 7 L], true⟩, ⟨[.int .i64 1], true⟩, ⟨[.bool true], true⟩, ⟨ints o, decide (L ≠ 0)⟩] ++ fblk L [o]) = [w, ⟨[VL b0 c0 z0 rs], true⟩, ⟨[.int .i64 (rs.length : Int)], true⟩, ⟨[CV 7 L], true⟩, ⟨[.int .i64 1], true⟩, ⟨[.bool true], true⟩, ⟨ints o, decide (L ≠ 0)⟩] ++ fblk L [o] := by
        rw [hlen7]
        by_cases h : L = 0
        · exact trim_le _ _ _ (by simp [fblk, h])
        · simp [trim, belowM, LV.unders, LV.under, nblt, CV, fblk, h]
      rw [← htr]
      refine hcw [] _ ?_
      have gM : FMf w (VL b0 c0 z0 rs) rs.length L [] o = [w, ⟨[VL b0 c0 z0 rs], true⟩, ⟨[.int .i64 (rs.length : Int)], true⟩, ⟨[.lst true true 0 0 []], true⟩, ⟨[.int .i64 0], true⟩, ⟨[.bool true], true⟩, ⟨ints o, true⟩] := rfl
      have g40 : (FMf w (VL b0 c0 z0 rs) rs.length L [] o)[4]? = some ⟨[.int .i64 0], true⟩ := rfl
      generalize FMf w (VL b0 c0 z0 rs) rs.length L [] o = M at *
      have lW' := lW
      generalize VL false true 1 (WR (vals rs) o) = VW at *
      generalize partW (vals rs) o 0 rs.length = P at *
      generalize CV 7 L = cv at *
      generalize fblk L [o] = T at *
      have hci : ∀ n : Int, (LV.int .i64 n).cells = some [.int .i64 n] := fun _ => rfl
      have hsi : ∀ n : Int, LV.scalar (.int .i64 n) = true := fun _ => rfl
      have hw01 : IntKind.i64.wrap ((0 : Int) + 1) = 1 := rfl
      generalize VL b0 c0 z0 rs = VV at *
      simp (maxSteps := 1000000) only [law07_ShareFree_1, law07_ShareFree_1.B, beqT, beqF, exF_seq, exF_region, exF_block, exF_cond, exF_ret, exF_exit, exF_skip, runL, wantL, stepL, evL, evC, LEnv.at, putL, loadFine, loadL, cellsAt, Trk.putNew, Trk.up, Trk.touch, Trk.gives, Trk.calm, Trk.hit, opdsOf, Trk.fresh, LEnv.keep, LEnv.ofFrom, List.map_cons, List.map_nil, nbeq, nble, nblt, ofAV, ofAVs, bin_add, bin_sub, bin_mul, bin_eql, bin_neq, bin_lss, bin_leq, bin_gtr, bin_geq, natL_nat, natL_zero, natL_one, natL_two, Nat.zero_mul, List.any_cons, List.any_nil, Bool.or_false, Bool.false_or, Bool.true_or, Bool.or_true, Bool.and_true, Bool.true_and, Bool.and_false, Bool.false_and, Bool.not_true, Bool.not_false, Nat.reduceBEq, Nat.reduceEqDiff, decide_true, decide_false, cond_true, cond_false, List.filter_nil, List.filter_cons, Nat.reduceAdd, Nat.reduceLeDiff, reduceCtorEq, List.length_nil, List.length_cons, Nat.mul_one, if_true, if_false, Bool.false_eq_true, eq_self, and_true, true_and, retL, resultsL, resAllL, resOfL, List.append_nil, List.nil_append, List.cons_append, true_or, or_true, false_or, or_false, false_and, and_false, not_true_eq_false, not_false_eq_true, ne_eq, unL, trim_nil, views_pures, LV.pures, LV.pure, freeze, Nat.reduceDiv, Int.reduceEq, Int.reduceLT, Int.reduceLE, Int.natCast_zero, allocL, List.getElem?_cons_zero, List.getElem?_cons_succ, storeL, spliceL, List.take_zero, List.take_succ_cons, List.drop_zero, List.drop_succ_cons, List.drop_nil, List.take_nil, Nat.le_refl, Nat.reduceMul, List.set_cons_zero, List.set_cons_succ, List.all_cons, List.all_nil, Nat.lt_add_one, Nat.zero_lt_one, Nat.reduceLT, Nat.lt_irrefl, fillL, List.length_append, foldIntL, kind_beq, pures_int, solids_int, plains_int, unders_int, scalars_int, g1, hwm, lW, hlo, r0, g40, hcl, hcv, hcs, hci, hsi, hw01]
    | cons q r =>
      have hn0 : ¬ (((q :: r).length : Int) = 0) := by simp; omega
      have hwr : IntKind.i64.wrap (((q :: r).length : Int) + 1) = ((q :: r).length : Int) + 1 := wrap_in (by omega)
      have hset : (FMf w (VL b0 c0 z0 rs) rs.length L (q :: r) o).set 4 ⟨[.int .i64 (((q :: r).length : Int) + 1)], true⟩ = FMf w (VL b0 c0 z0 rs) rs.length L (q :: r ++ [o]) o := by
        simp [FMf, fnd, fblk, fow]
      have htr : trim (FMf w (VL b0 c0 z0 rs) rs.length L (q :: r) o).length [.tup []] (FMf w (VL b0 c0 z0 rs) rs.length L (q :: r ++ [o]) o) = FMf w (VL b0 c0 z0 rs) rs.length L (q :: r ++ [o]) o := trim_le _ _ _ (by rw [← hset, List.length_set]; exact Nat.le_refl _)
      have hl4 : ¬ (FMf w (VL b0 c0 z0 rs) rs.length L (q :: r) o).length ≤ 4 := by simp [FMf]
      rw [← htr]
      refine hcw [] _ ?_
      rw [← hset]
      generalize FMf w (VL b0 c0 z0 rs) rs.length L (q :: r) o = M at *
      generalize VL false true 1 (WR (vals rs) o) = VW at *
      generalize partW (vals rs) o 0 rs.length = P at *
      generalize ((q :: r).length : Int) = cnt at *
      simp (maxSteps := 1000000) only [law07_ShareFree_1, law07_ShareFree_1.B, beqT, beqF, exF_seq, exF_region, exF_block, exF_cond, exF_ret, exF_exit, exF_skip, runL, wantL, stepL, evL, evC, LEnv.at, putL, loadFine, loadL, cellsAt, Trk.putNew, Trk.up, Trk.touch, Trk.gives, Trk.calm, Trk.hit, opdsOf, Trk.fresh, LEnv.keep, LEnv.ofFrom, List.map_cons, List.map_nil, nbeq, nble, nblt, ofAV, ofAVs, bin_add, bin_sub, bin_mul, bin_eql, bin_neq, bin_lss, bin_leq, bin_gtr, bin_geq, natL_nat, natL_zero, natL_one, natL_two, Nat.zero_mul, List.any_cons, List.any_nil, Bool.or_false, Bool.false_or, Bool.true_or, Bool.or_true, Bool.and_true, Bool.true_and, Bool.and_false, Bool.false_and, Bool.not_true, Bool.not_false, Nat.reduceBEq, Nat.reduceEqDiff, decide_true, decide_false, cond_true, cond_false, List.filter_nil, List.filter_cons, Nat.reduceAdd, Nat.reduceLeDiff, reduceCtorEq, List.length_nil, List.length_cons, Nat.mul_one, if_true, if_false, Bool.false_eq_true, eq_self, and_true, true_and, retL, resultsL, resAllL, resOfL, List.append_nil, List.nil_append, List.cons_append, true_or, or_true, false_or, or_false, false_and, and_false, not_true_eq_false, not_false_eq_true, ne_eq, unL, trim_nil, views_pures, LV.pures, LV.pure, freeze, Nat.reduceDiv, Int.reduceEq, Int.reduceLT, Int.reduceLE, Int.natCast_zero, LV.cells, allocL, List.getElem?_cons_zero, List.getElem?_cons_succ, storeL, spliceL, List.take_zero, List.take_succ_cons, List.drop_zero, List.drop_succ_cons, List.drop_nil, List.take_nil, Nat.le_refl, Nat.reduceMul, List.set_cons_zero, List.set_cons_succ, LV.scalar, List.all_cons, List.all_nil, Nat.lt_add_one, Nat.zero_lt_one, Nat.reduceLT, Nat.lt_irrefl, fillL, List.length_append, foldIntL, kind_beq, pures_int, solids_int, plains_int, unders_int, scalars_int, g1, hwm, lW, hlo, r0, g4, hn0, hwr, hl4]
end
end Go.Am.Share

/-
  What functions of chapter 07 compute, outright 10: the law 'ShareFree', joined.
-/
set_option linter.unusedVariables false
set_option linter.unusedSimpArgs false
set_option maxRecDepth 10000
set_option maxHeartbeats 400000
namespace Go.Am.Share
open Go.Am.G

def XFr (w : LBlk) (b0 c0 : Bool) (z0 : Nat) {rs : List Row} (L : Nat) (hD : ∀ o : List Int, o.length = L → (∀ x ∈ o, 0 ≤ x ∧ x < (rs.length : Int)) → LOk rs o) : DVis rs.length L where
  mem h o := FMf w (VL b0 c0 z0 rs) rs.length L (h.filter (fairI (vals rs))) o
  f := n_law07_ShareFree_1
  cap := [.ptr 1 0 1, .ptr 2 0 1, .ptr 5 0 1, .ptr 4 0 1, .ptr 3 0 1]
  b := 6
  own h := fow L (h.filter (fairI (vals rs)))
  hown h hL := by
    have : L ≠ 0 := by omega
    simp [fow, this]
  hb h o ho := rfl
  hset h o k x ho hk := by
    have : fow L (h.filter (fairI (vals rs))) = true := by
      have : L ≠ 0 := by omega
      simp [fow, this]
    simp [FMf, this]
  hvis h o hG ho hr := by
    have := free1_w w b0 c0 z0 (hD o ho hr) ho (h.filter (fairI (vals rs))) (by
      have := List.length_filter_le (fairI (vals rs)) h
      have := hG.few
      omega)
    rw [List.filter_append]
    have e : [o].filter (fairI (vals rs)) = if fairI (vals rs) o then [o] else [] := by
      cases hF : fairI (vals rs) o <;> simp [hF]
    rw [e]
    cases hF : fairI (vals rs) o
    · rw [hF] at this
      simpa using this
    · rw [hF] at this
      simpa using this
theorem freeR1 (l e : LV) (hl : lenL l = some 0) (V3 V5 : LV) (m : LMem) (he : e = .int .i64 12) :
    exF LP law07_ShareFree.B.R1 [(3, V3), (5, V5), (8, l), (9, e), (43, .bool true)] m = some (.normal, [(2, .bool true)], m) := by
  subst he
  simp (maxSteps := 1000000) only [law07_ShareFree.B.R1, beqT, beqF, exF_seq, exF_region, exF_block, exF_cond, exF_ret, exF_exit, exF_skip, runL, wantL, stepL, evL, evC, LEnv.at, putL, loadFine, loadL, cellsAt, Trk.putNew, Trk.up, Trk.touch, Trk.gives, Trk.calm, Trk.hit, opdsOf, Trk.fresh, LEnv.keep, LEnv.ofFrom, List.map_cons, List.map_nil, nbeq, nble, nblt, ofAV, ofAVs, bin_add, bin_sub, bin_mul, bin_eql, bin_neq, bin_lss, bin_leq, bin_gtr, bin_geq, natL_nat, natL_zero, natL_one, natL_two, Nat.zero_mul, List.any_cons, List.any_nil, Bool.or_false, Bool.false_or, Bool.true_or, Bool.or_true, Bool.and_true, Bool.true_and, Bool.and_false, Bool.false_and, Bool.not_true, Bool.not_false, Nat.reduceBEq, Nat.reduceEqDiff, decide_true, decide_false, cond_true, cond_false, List.filter_nil, List.filter_cons, Nat.reduceAdd, Nat.reduceLeDiff, reduceCtorEq, List.length_nil, List.length_cons, Nat.mul_one, if_true, if_false, Bool.false_eq_true, eq_self, and_true, true_and, retL, resultsL, resAllL, resOfL, List.append_nil, List.nil_append, List.cons_append, true_or, or_true, false_or, or_false, false_and, and_false, not_true_eq_false, not_false_eq_true, ne_eq, unL, trim_nil, views_pures, LV.pures, LV.pure, freeze, Nat.reduceDiv, Int.reduceEq, Int.reduceLT, Int.reduceLE, Int.natCast_zero, LV.cells, allocL, List.getElem?_cons_zero, List.getElem?_cons_succ, storeL, spliceL, List.take_zero, List.take_succ_cons, List.drop_zero, List.drop_succ_cons, List.drop_nil, List.take_nil, Nat.le_refl, Nat.reduceMul, List.set_cons_zero, List.set_cons_succ, LV.scalar, List.all_cons, List.all_nil, Nat.lt_add_one, Nat.zero_lt_one, Nat.reduceLT, Nat.lt_irrefl, fillL, List.length_append, foldIntL, kind_beq, pures_int, solids_int, plains_int, unders_int, scalars_int, hl, works_c]
theorem sharefree_in (ns : List Int) (hl : ns.length = 26) (hb : ∀ n ∈ ns, 0 ≤ n ∧ n < 256) :
    clF LP n_law07_ShareFree [.agg (ns.map (LV.int .u8))] [] = some (.P, .bool true, []) := by
  obtain ⟨w, rfl, hwb⟩ := bytes_nat ns hb
  rw [ci_ln] at hl
  show clF LP n_law07_ShareFree [.agg (bys w)] [] = some (.P, .bool true, [])
  obtain ⟨b0, c0, z0, hm⟩ := made_c w hl hwb 3 6 6 (by omega) (by omega) (by omega)
  have hr := Nat.mod_lt (w.getD 0 0) (show 0 < 3 by omega)
  have hn := Nat.mod_lt (w.getD 1 0) (show 0 < 6 + 1 by omega)
  have hbl : (bys w).length = 26 := by simp [hl]
  have htk : (bys w).take 26 = bys w := List.take_of_length_le (by omega)
  have hps : LV.pures (bys w) = true := pures_int _ _
  generalize hn' : w.getD 1 0 % (6 + 1) = L at *
  generalize hr' : 1 + w.getD 0 0 % 3 = r at *
  have hr1 : 1 ≤ r := by omega
  have hr4 : r ≤ 4 := by omega
  have hrl := rsM_len w 6 L r
  have hvals := rsM_vals w 6 L r
  have hD : ∀ o : List Int, o.length = L → (∀ x ∈ o, 0 ≤ x ∧ x < ((rsM w 6 L r).length : Int)) → LOk (rsM w 6 L r) o := fun o ho h => rsM_ok w 6 L r (by omega) (by omega) hr1 hr4 o ho (fun x hx => by have := h x hx; rw [hrl] at this; omega)
  have hdv : ∀ o : List Int, o.length = L → (∀ x ∈ o, 0 ≤ x ∧ x < ((rsM w 6 L r).length : Int)) → divE (vals (rsM w 6 L r)) o = 0 := fun o ho h => by rw [hvals]; exact divM w 6 L r (by omega) (by omega) hr1 hr4 o ho (fun x hx => by have := h x hx; rw [hrl] at this; exact this)
  have hck : chkV (vals (rsM w 6 L r)) = 0 := by rw [hvals]; exact chkM w 6 L r (by omega) (by omega) hr1 hr4
  have hrow0 : ((rsM w 6 L r).map Row.lv)[0]? = some (rowR (rowL (cut6 w 0) 6 L)).lv := by
    rw [row_at _ _ (by omega), rsM_at]
  have hlen0 : lenL (rowR (rowL (cut6 w 0) 6 L)).lv = some L := by
    show some (rowL (cut6 w 0) 6 L).length = some L
    rw [rowL_len]
  have hV0 : ((vals (rsM w 6 L r)).getD 0 []).length = L := by
    rw [vals_at _ 0 (by omega), rsM_at]
    show (rowL _ 6 L).length = L
    rw [rowL_len]
  generalize hrs : rsM w 6 L r = rs at *
  have hpos : 0 < rs.length := by omega
  have hr10 : ∀ x ∈ rs, x.l.length < 1000000 := fun x hx => by
    obtain ⟨i, hi, e⟩ := List.getElem_of_mem hx
    have := (hD (List.replicate L 0) (by simp) (fun y hy => by rw [List.eq_of_mem_replicate hy]; omega)).len i hi
    rw [List.length_replicate] at this
    rw [← e]; omega
  have hpv : (VL b0 c0 z0 rs).pure = true := by simp only [LV.pure, pures_row]
  -- all divisions
  have hw := divisions_w rs (XFr ⟨bys w, true⟩ b0 c0 z0 L hD) b0 c0 z0 (by omega) (by omega) hpos (by rw [hrow0, Option.map_some, hlen0]) [⟨bys w, true⟩, ⟨[VL b0 c0 z0 rs], true⟩, ⟨[.int .i64 (rs.length : Int)], true⟩, ⟨[.lst true true 0 0 []], true⟩, ⟨[.int .i64 0], true⟩, ⟨[.bool true], true⟩] rfl rfl
  have hfs : (allR rs.length L).filter (fairI (vals rs)) = fairs (vals rs) := by
    unfold fairs
    rw [vals_length, hV0, allR_D]
  have hX : (XFr ⟨bys w, true⟩ b0 c0 z0 L hD).mem (allR rs.length L) (List.replicate L 0) = FMf ⟨bys w, true⟩ (VL b0 c0 z0 rs) rs.length L (fairs (vals rs)) (List.replicate L 0) := by
    show FMf ⟨bys w, true⟩ (VL b0 c0 z0 rs) rs.length L ((allR rs.length L).filter (fairI (vals rs))) (List.replicate L 0) = _
    rw [hfs]
  rw [hX] at hw
  have hmemf : ∀ q ∈ fairs (vals rs), q.length = L ∧ (∀ x ∈ q, 0 ≤ x ∧ x < (rs.length : Int)) ∧ fairI (vals rs) q = true := fun q hq => by
    rw [← hfs] at hq
    obtain ⟨a, b⟩ := List.mem_filter.1 hq
    exact ⟨allR_length _ _ _ a, allR_mem _ _ _ a, b⟩
  have hcount := fun m => countP_c b0 c0 z0 rs (by omega) hr10 m
  rw [countV_eq, if_pos hck, hck] at hcount
  obtain ⟨n1, e1, z1, hz1, hz2, hfree⟩ := freeP_f b0 c0 z0 rs (by omega) hr10
  have hfE : freeE (vals rs) = if fairs (vals rs) = [] then 12 else 0 := by unfold freeE; rw [if_neg (by simpa using hck)]
  have hfV : freeV (vals rs) = (fairs (vals rs)).headD [] := by unfold freeV; rw [if_pos hck]
  rw [hfE, hfV] at hfree
  rw [hfV] at hz1 hz2
  have lVV : lenL (VL b0 c0 z0 rs) = some rs.length := rfl
  have hpure : LV.pures [LV.agg (bys w)] = true := by simp only [LV.pures, LV.pure, hps, Bool.and_true]
  have hm : ∀ m, clF LP n_law07_Heap_made [.agg (bys w), .int .i64 3, .int .i64 6, .int .i64 6] m = some (.P, VL b0 c0 z0 rs, m) := hm
  obtain ⟨M', hM'⟩ : ∃ M, M = trim [⟨bys w, true⟩, ⟨[VL b0 c0 z0 rs], true⟩, ⟨[.int .i64 (rs.length : Int)], true⟩, ⟨[.lst true true 0 0 []], true⟩, ⟨[.int .i64 0], true⟩, (⟨[.bool true], true⟩ : LBlk)].length [.tup []] (FMf ⟨bys w, true⟩ (VL b0 c0 z0 rs) rs.length L (fairs (vals rs)) (List.replicate L 0)) := ⟨_, rfl⟩
  rw [← hM'] at hw
  have q1 : M'[1]? = some ⟨[VL b0 c0 z0 rs], true⟩ := by rw [hM', trim_get (by simp)]; rfl
  have q3 : M'[3]? = some ⟨[fnd L (fairs (vals rs))], true⟩ := by rw [hM', trim_get (by simp)]; rfl
  have q4 : M'[4]? = some ⟨[.int .i64 ((fairs (vals rs)).length : Int)], true⟩ := by rw [hM', trim_get (by simp)]; rfl
  have q5 : M'[5]? = some ⟨[.bool true], true⟩ := by rw [hM', trim_get (by simp)]; rfl
  have hof0 : ofAVs [.nilslice] = [.lst true true 0 0 []] := rfl
  have hof1 : ofAVs [.int .i64 0] = [.int .i64 0] := rfl
  have hof2 : ofAVs [.bool false] = [.bool false] := rfl
  have hcV : (VL b0 c0 z0 rs).cells = some [VL b0 c0 z0 rs] := rfl
  have hsV : LV.scalar (VL b0 c0 z0 rs) = true := rfl
  have hca : ∀ cs, (LV.agg cs).cells = some cs := fun _ => rfl
  have hci : ∀ n : Int, (LV.int .i64 n).cells = some [.int .i64 n] := fun _ => rfl
  have hsi : ∀ n : Int, LV.scalar (.int .i64 n) = true := fun _ => rfl
  have hcb : ∀ b : Bool, (LV.bool b).cells = some [.bool b] := fun _ => rfl
  have hsb : ∀ b : Bool, LV.scalar (.bool b) = true := fun _ => rfl
  have hfunc : (XFr ⟨bys w, true⟩ b0 c0 z0 L hD).f = n_law07_ShareFree_1 := rfl
  have hcap : (XFr ⟨bys w, true⟩ b0 c0 z0 L hD).cap = [.ptr 1 0 1, .ptr 2 0 1, .ptr 5 0 1, .ptr 4 0 1, .ptr 3 0 1] := rfl
  rw [hfunc, hcap] at hw
  refine call_P lp_law07_ShareFree rfl hpure (m1 := M') ?_ rfl []
  cases hfe : fairs (vals rs) with
  | nil =>
    rw [hfe] at hcount hfree q3 q4
    simp only [if_true, List.headD_nil, List.length_nil, Int.natCast_zero] at hcount hfree q4
    have r1 := freeR1 (IL n1 e1 z1 []) (.int .i64 12) rfl (.ptr 1 0 1) (.ptr 3 0 1) M' rfl
    generalize VL b0 c0 z0 rs = VV at *
    generalize bys w = ww at *
    simp (maxSteps := 1000000) only [law07_ShareFree, law07_ShareFree.B, law07_ShareFree.B.R0, beqT, beqF, exF_seq, exF_region, exF_block, exF_cond, exF_ret, exF_exit, exF_skip, runL, wantL, stepL, evL, evC, LEnv.at, putL, loadFine, loadL, cellsAt, Trk.putNew, Trk.up, Trk.touch, Trk.gives, Trk.calm, Trk.hit, opdsOf, Trk.fresh, LEnv.keep, LEnv.ofFrom, List.map_cons, List.map_nil, nbeq, nble, nblt, ofAV, ofAVs, bin_add, bin_sub, bin_mul, bin_eql, bin_neq, bin_lss, bin_leq, bin_gtr, bin_geq, natL_nat, natL_zero, natL_one, natL_two, Nat.zero_mul, List.any_cons, List.any_nil, Bool.or_false, Bool.false_or, Bool.true_or, Bool.or_true, Bool.and_true, Bool.true_and, Bool.and_false, Bool.false_and, Bool.not_true, Bool.not_false, Nat.reduceBEq, Nat.reduceEqDiff, decide_true, decide_false, cond_true, cond_false, List.filter_nil, List.filter_cons, Nat.reduceAdd, Nat.reduceLeDiff, reduceCtorEq, List.length_nil, List.length_cons, Nat.mul_one, if_true, if_false, Bool.false_eq_true, eq_self, and_true, true_and, retL, resultsL, resAllL, resOfL, List.append_nil, List.nil_append, List.cons_append, true_or, or_true, false_or, or_false, false_and, and_false, not_true_eq_false, not_false_eq_true, ne_eq, unL, trim_nil, views_pures, LV.pures, LV.pure, freeze, Nat.reduceDiv, Int.reduceEq, Int.reduceLT, Int.reduceLE, Int.natCast_zero, allocL, List.getElem?_cons_zero, List.getElem?_cons_succ, storeL, spliceL, List.take_zero, List.take_succ_cons, List.drop_zero, List.drop_succ_cons, List.drop_nil, List.take_nil, Nat.le_refl, Nat.reduceMul, List.set_cons_zero, List.set_cons_succ, List.all_cons, List.all_nil, Nat.lt_add_one, Nat.zero_lt_one, Nat.reduceLT, Nat.lt_irrefl, fillL, List.length_append, foldIntL, kind_beq, pures_int, solids_int, plains_int, unders_int, scalars_int, hbl, htk, hm, hof0, hof1, hof2, hcV, hsV, hca, hci, hsi, hcb, hsb, lVV, hw, hfree, hcount, q1, q3, q4, q5, r1]
  | cons q rr =>
    rw [hfe] at hcount hfree q3 q4 hM' hz1 hz2 hmemf
    obtain ⟨ql, qr, qf⟩ := hmemf q (by simp)
    have D := hD q ql qr
    have hd := hdv q ql qr
    have hne : ¬ (q :: rr = []) := by simp
    rw [if_neg hne] at hfree
    simp only [List.headD_cons] at hfree hz1 hz2
    have hfair := fun m => fairP_c b0 c0 n1 e1 z0 z1 rs q (in_lok D hz1 hz2) m
    have h2 : fairV (vals rs) q = 2 := by
      have := fairV_two hd
      rw [qf] at this
      simpa using this
    rw [hd, h2] at hfair
    have hcn : ¬ (((q :: rr).length : Int) = 0) := by simp; omega
    have hsame : clF LP n_law07_same [IL n1 e1 z1 q, CV 7 L] M' = some (.P, .bool true, M') := by
      by_cases h0 : L = 0
      · obtain rfl : q = [] := List.length_eq_zero_iff.1 (by omega)
        unfold CV
        rw [if_pos h0]
        exact same_refl n1 e1 false true z1 0 [] (by simp) M'
      · have hMM : M' = FMf ⟨bys w, true⟩ (VL b0 c0 z0 rs) rs.length L (q :: rr) (List.replicate L 0) := by
          rw [hM']
          simp [trim, belowM, LV.unders, LV.under, nblt, FMf, fnd, CV, fblk, h0]
        have h7 : M'[7]? = some ⟨ints q, true⟩ := by rw [hMM]; simp [FMf, fblk, h0]
        unfold CV
        rw [if_neg h0]
        have hv : ∀ k, view (k + 3) M' (.sl 7 0 L L 1 1 L) = some (IL false false 1 q, [7]) := fun k => by
          have hqne : q ≠ [] := fun e => by rw [e] at ql; simp at ql; omega
          exact view_at ql h7 hqne k
        exact call_view lp_law07_same rfl (views_in M' (IL n1 e1 z1 q) _ _ _ [] hv (by simp [LV.pure]) rfl rfl (by simp)) (by simp [LV.pures, LV.pure]) (same_refl n1 e1 false false z1 1 q (by omega) []) rfl
    have q3 : M'[3]? = some ⟨[CV 7 L], true⟩ := q3
    clear hM'
    generalize CV 7 L = cv at *
    generalize VL b0 c0 z0 rs = VV at *
    generalize bys w = ww at *
    generalize hcc : ((q :: rr).length : Int) = cnt at *
    generalize IL n1 e1 z1 q = lq at *
    simp (maxSteps := 1000000) only [law07_ShareFree, law07_ShareFree.B, law07_ShareFree.B.R0, law07_ShareFree.B.R2, law07_ShareFree.B.R3, beqT, beqF, exF_seq, exF_region, exF_block, exF_cond, exF_ret, exF_exit, exF_skip, runL, wantL, stepL, evL, evC, LEnv.at, putL, loadFine, loadL, cellsAt, Trk.putNew, Trk.up, Trk.touch, Trk.gives, Trk.calm, Trk.hit, opdsOf, Trk.fresh, LEnv.keep, LEnv.ofFrom, List.map_cons, List.map_nil, nbeq, nble, nblt, ofAV, ofAVs, bin_add, bin_sub, bin_mul, bin_eql, bin_neq, bin_lss, bin_leq, bin_gtr, bin_geq, natL_nat, natL_zero, natL_one, natL_two, Nat.zero_mul, List.any_cons, List.any_nil, Bool.or_false, Bool.false_or, Bool.true_or, Bool.or_true, Bool.and_true, Bool.true_and, Bool.and_false, Bool.false_and, Bool.not_true, Bool.not_false, Nat.reduceBEq, Nat.reduceEqDiff, decide_true, decide_false, cond_true, cond_false, List.filter_nil, List.filter_cons, Nat.reduceAdd, Nat.reduceLeDiff, reduceCtorEq, List.length_nil, List.length_cons, Nat.mul_one, if_true, if_false, Bool.false_eq_true, eq_self, and_true, true_and, retL, resultsL, resAllL, resOfL, List.append_nil, List.nil_append, List.cons_append, true_or, or_true, false_or, or_false, false_and, and_false, not_true_eq_false, not_false_eq_true, ne_eq, unL, trim_nil, views_pures, LV.pures, LV.pure, freeze, Nat.reduceDiv, Int.reduceEq, Int.reduceLT, Int.reduceLE, Int.natCast_zero, allocL, List.getElem?_cons_zero, List.getElem?_cons_succ, storeL, spliceL, List.take_zero, List.take_succ_cons, List.drop_zero, List.drop_succ_cons, List.drop_nil, List.take_nil, Nat.le_refl, Nat.reduceMul, List.set_cons_zero, List.set_cons_succ, List.all_cons, List.all_nil, Nat.lt_add_one, Nat.zero_lt_one, Nat.reduceLT, Nat.lt_irrefl, fillL, List.length_append, foldIntL, kind_beq, pures_int, solids_int, plains_int, unders_int, scalars_int, hbl, htk, hm, hof0, hof1, hof2, hcV, hsV, hca, hci, hsi, hcb, hsb, lVV, hw, hfree, hcount, q1, q3, q4, q5, hcn, hfair, hsame, works_c]
end Go.Am.Share

/-
  THE JOIN: arguments that came in, as the list machine's lists; what the list machine's answer says of the model's call.
-/
set_option linter.unusedVariables false
namespace Go.Am
variable [Glo]
open Go.RowKit

def Placed (ρ : PM) (b : Nat) (ps : List Place) : Prop := ∀ (i : Nat) (p : Place), ps[i]? = some p → ρ (b + i) = some p
def Shows (s : Sit) (b : Nat) (bl : List (List AV)) : Prop := ∀ (i : Nat) (cs : List AV), bl[i]? = some cs → s.A (b + i) ∧ s.am.look (b + i) = some ⟨cs, false⟩

/-- An argument that reads as a value of the list machine. -/
def ArgOk (w : World) (v : Value) (lv : LV) : Prop :=
  ∃ (bl : Nat → List (List AV)) (ps : List Place) (av : Nat → AV), (∀ b, (bl b).length = ps.length) ∧
    (∀ (ρ : PM) (b : Nat), Placed ρ b ps → VR ρ (av b) v ∧ ∀ (i : Nat) (cs : List AV) (p : Place), (bl b)[i]? = some cs → ps[i]? = some p → CellsAt ρ w cs p) ∧
    (∀ (s : Sit) (b : Nat), Shows s b (bl b) → LR s lv (av b))
inductive ArgsOk (w : World) : List Value → List LV → Prop
  | nil : ArgsOk w [] []
  | cons {v : Value} {lv : LV} {vs : List Value} {lvs : List LV} (h : ArgOk w v lv) (hr : ArgsOk w vs lvs) : ArgsOk w (v :: vs) (lv :: lvs)

omit [Glo] in
theorem append_get {α : Type} (a b : List α) (i : Nat) (x : α) (h : (a ++ b)[i]? = some x) : (i < a.length ∧ a[i]? = some x) ∨ (a.length ≤ i ∧ b[i - a.length]? = some x) := by
  by_cases hi : i < a.length
  · rw [List.getElem?_append_left hi] at h; exact .inl ⟨hi, h⟩
  · rw [List.getElem?_append_right (by omega)] at h; exact .inr ⟨by omega, h⟩

omit [Glo] in
theorem args_all {w : World} : ∀ {vs : List Value} {lvs : List LV}, ArgsOk w vs lvs → ∃ (bl : Nat → List (List AV)) (ps : List Place) (avs : Nat → List AV), (∀ b, (bl b).length = ps.length) ∧
    (∀ (ρ : PM) (b : Nat), Placed ρ b ps → VRs ρ (avs b) vs ∧ ∀ (i : Nat) (cs : List AV) (p : Place), (bl b)[i]? = some cs → ps[i]? = some p → CellsAt ρ w cs p) ∧
    (∀ (s : Sit) (b : Nat), Shows s b (bl b) → LRs s lvs (avs b))
  | _, _, .nil => ⟨fun _ => [], [], fun _ => [], fun _ => rfl, fun ρ b _ => ⟨.nil, fun i cs p h => by simp at h⟩, fun s b _ => .nil⟩
  | _, _, .cons h hr => by
    obtain ⟨bl1, ps1, av1, a1, a2, a3⟩ := h
    obtain ⟨bl2, ps2, av2, b1, b2, b3⟩ := args_all hr
    refine ⟨fun b => bl1 b ++ bl2 (b + ps1.length), ps1 ++ ps2, fun b => av1 b :: av2 (b + ps1.length), fun b => by simp [a1, b1], fun ρ b hp => ?_, fun s b hs => ?_⟩
    · have hp1 : Placed ρ b ps1 := fun i p h => hp i p (by rw [List.getElem?_append_left (List.getElem?_eq_some_iff.1 h).1]; exact h)
      have hp2 : Placed ρ (b + ps1.length) ps2 := fun i p h => by
        have := hp (ps1.length + i) p (by rw [List.getElem?_append_right (by omega)]; simpa using h)
        rw [Nat.add_assoc]; exact this
      obtain ⟨c1, c2⟩ := a2 ρ b hp1
      obtain ⟨d1, d2⟩ := b2 ρ _ hp2
      refine ⟨.cons c1 d1, fun i cs p hcs hpp => ?_⟩
      rcases append_get _ _ _ _ hcs with ⟨e1, e2⟩ | ⟨e1, e2⟩
      · rw [a1] at e1
        rw [List.getElem?_append_left e1] at hpp
        exact c2 i cs p e2 hpp
      · rw [a1] at e1 e2
        rw [List.getElem?_append_right e1] at hpp
        exact d2 _ cs p e2 hpp
    · refine .cons (a3 s b fun i cs h => hs i cs (by rw [List.getElem?_append_left (List.getElem?_eq_some_iff.1 h).1]; exact h)) (b3 s _ fun i cs h => ?_)
      have := hs (ps1.length + i) cs (by rw [List.getElem?_append_right (by rw [a1]; omega)]; rw [a1]; simpa using h)
      rw [Nat.add_assoc]; exact this

/-- Where the package-level variables lie. -/
def gPlaces (n : Nat) : List Place := (List.range n).map fun g => ⟨g, 0, 0⟩
omit [Glo] in
theorem gPlaces_get {n g : Nat} {p : Place} (h : (gPlaces n)[g]? = some p) : p = ⟨g, 0, 0⟩ := by
  unfold gPlaces at h
  rw [List.getElem?_map] at h
  obtain ⟨x, hx, rfl⟩ := Option.map_eq_some_iff.1 h
  have hg := (List.getElem?_eq_some_iff.1 hx).1
  simp at hg
  rw [List.getElem?_range hg] at hx
  cases hx; rfl

/-- WHAT A LAW's WALK ASKS OF THE LIST MACHINE. -/
theorem law_glob {P : Program} {C : Prog} {LP : LProg} (hC : ProgOk C P) (hmix : P.follows .mixedOrders = true) (hL : ProgL LP C) {f : Nat} {lvs : List LV} {md : Mode} {m' : LMem} (h : clF LP f lvs [] = some (md, .bool true, m'))
    {w : World} {cargs : Array Value} (ha : ArgsOk w cargs.toList lvs) (gb : List (List AV)) (hgb : gb.length = P.globals.size) (hT : ∀ g l, Glo.tab g = some l → gb[g]? = some l) (hcell : ∀ (ρ : PM) (g : Nat) (cs : List AV), gb[g]? = some cs → CellsAt ρ w cs ⟨g, 0, 0⟩) :
    Calls P f cargs w fun e w' => e = .returned (.bool true) ∧ Below w.heap.size w w' := by
  obtain ⟨bl, ps, avs, h1, h2, h3⟩ := args_all ha
  obtain ⟨n, hn⟩ := clF_some.1 h
  generalize hN : gb.length = N at hgb
  generalize hall : gb ++ bl N = all
  have hget : ∀ (i : Nat) (cs : List AV), (bl N)[i]? = some cs → all[N + i]? = some cs := fun i cs hi => by
    rw [← hall, List.getElem?_append_right (by omega), hN, Nat.add_sub_cancel_left]; exact hi
  have hs : Shows ⟨[], memOf all, fun _ => 0, fun b => b < all.length⟩ N (bl N) := fun i cs hi =>
    ⟨(List.getElem?_eq_some_iff.1 (hget i cs hi)).1, by show (memOf all).look (N + i) = _; rw [memOf_look, hget i cs hi]; rfl⟩
  have hrel : Rel2 ⟨[], memOf all, fun _ => 0, fun b => b < all.length⟩ := by
    refine ⟨fun i b hb => by simp at hb, fun i j b b' hb => by simp at hb, fun b hb => ?_, fun b ab hb => ?_, fun g l hg => ?_⟩
    · have hb : b < all.length := hb
      exact ⟨⟨all[b], false⟩, by show (memOf all).look b = _; rw [memOf_look, List.getElem?_eq_getElem hb]; rfl⟩
    · have hb : (memOf all).look b = some ab := hb
      show b < (memOf all).next
      rw [memOf_next]
      rw [memOf_look] at hb
      obtain ⟨x, hx, _⟩ := Option.map_eq_some_iff.1 hb
      exact (List.getElem?_eq_some_iff.1 hx).1
    · have e : all[g]? = some l := by
        have := hT g l hg
        rw [← hall, List.getElem?_append_left (List.getElem?_eq_some_iff.1 this).1]; exact this
      exact ⟨(List.getElem?_eq_some_iff.1 e).1, by show (memOf all).look g = _; rw [memOf_look, e]; rfl⟩
  obtain ⟨av, am', h4, t, _, _, _, _, h5, _⟩ := callL_sound hL n f lvs [] md (.bool true) m' hn _ (avs N) rfl hrel (h3 _ N hs)
  cases h5
  generalize hpl : gPlaces N ++ ps = pl
  have hgl : (gPlaces N).length = N := by simp [gPlaces]
  have hplaced : Placed (placesOf pl) N ps := fun i p hp => by
    show pl[N + i]? = some p
    rw [← hpl, List.getElem?_append_right (by omega), hgl, Nat.add_sub_cancel_left]; exact hp
  obtain ⟨h6, h7⟩ := h2 (placesOf pl) N hplaced
  refine law_calls hC hmix (l := all) (ps := pl) h4 (by rw [← hall, ← hpl, List.length_append, List.length_append, h1, hgl, hN]) (fun i cs p hcs hp => ?_) h6 fun g hg => ?_
  · rw [← hall] at hcs
    rw [← hpl] at hp
    rcases append_get _ _ _ _ hcs with ⟨e1, e2⟩ | ⟨e1, e2⟩
    · rw [List.getElem?_append_left (by omega)] at hp
      rw [gPlaces_get hp]
      exact hcell _ i cs e2
    · rw [List.getElem?_append_right (by omega), hgl] at hp
      rw [hN] at e2
      exact h7 _ cs p e2 hp
  · have hg : g < N := by omega
    refine ⟨⟨g, 0, 0⟩, ?_, rfl, rfl⟩
    show pl[g]? = _
    rw [← hpl, List.getElem?_append_left (by omega)]
    simp [gPlaces, hg]

theorem law_list {P : Program} {C : Prog} {LP : LProg} (hC : ProgOk C P) (hmix : P.follows .mixedOrders = true) (hL : ProgL LP C) {f : Nat} {lvs : List LV} {md : Mode} {m' : LMem} (h : clF LP f lvs [] = some (md, .bool true, m')) (hG : P.globals.size = 0) (hT : ∀ g, Glo.tab g = none)
    {w : World} {cargs : Array Value} (ha : ArgsOk w cargs.toList lvs) : Calls P f cargs w fun e w' => e = .returned (.bool true) ∧ Below w.heap.size w w' :=
  law_glob hC hmix hL h ha [] (by simp [hG]) (fun g l hg => by rw [hT g] at hg; cases hg) (fun ρ g cs hg => by simp at hg)
end Go.Am

/-
  THE JOIN, 2: lists of numbers, and lists of lists, that came in.
-/
set_option linter.unusedVariables false
namespace Go.Am
variable [Glo]
open Go.ChangeShapes Go.RowKit Go.Deep

end Go.Am

/-
  THE JOIN, 3: arguments read behind the call as before it.
-/
set_option linter.unusedVariables false
namespace Go.Am
variable [Glo]
open Go.RowKit
omit [Glo] in
theorem trodAll_below {H : Type} {enc : TypeId × Value → H} {P : Program} {W W' : World} (hl : laidOutB P = true) (hb : Below W.heap.size W W') : ∀ {ts : List TypeId} {vs : List Value} {ds : List (DataW H)} {ps : List MemPlace}, (ts.all fun t => P.readableRec t && decide (t < P.types.size)) = true →
    DataW.TrodAll enc P W 0 (fun _ => true) true ts vs ds ps → (∀ x ∈ ps, x.block < W.heap.size) → DataW.TrodAll enc P W' 0 (fun b => decide (b < W.heap.size)) true ts vs ds ps
  | [], [], [], _, _, h, _ => h
  | t :: ts, v :: vs, d :: ds, ps, hr, ⟨p, q, h1, h2, e⟩, hlt => by
    simp only [List.all_cons, Bool.and_eq_true, decide_eq_true_eq] at hr
    subst e
    exact ⟨p, q, Below.trod hl hr.1.1 hr.1.2 h1 hb (fun x hx => hlt x (List.mem_append_left _ hx)), trodAll_below hl hb hr.2 h2 (fun x hx => hlt x (List.mem_append_right _ hx)), rfl⟩
end Go.Am

/-
  THE JOIN, 4: structs of bytes that came in.
-/
set_option linter.unusedVariables false
namespace Go.Am
variable [Glo]
open Go.RowKit

/-! ### Types that hold bytes alone -/
def sumPc : Nat → List (Nat × Nat) → Option Nat
  | off, [] => some off
  | off, (o, k) :: r => cond (Nat.beq o off) (sumPc (off + k) r) none
def pcsF (P : Program) (g : TypeId → Option Nat) : List Field → Option (List (Nat × Nat))
  | [] => some []
  | f :: r => match g f.type with
    | some k => match pcsF P g r with
      | some l => cond (Nat.beq (P.cellsOf f.type) k) (some ((f.offset, k) :: l)) none
      | none => none
    | none => none
/-- How many bytes. -/
def u8T (P : Program) : Nat → TypeId → Option Nat
  | 0, _ => none
  | n + 1, t => match P.underlying t with
    | some (.int .u8) => some 1
    | some (.array m e) => match u8T P n e with
      | some k => cond (Nat.beq (P.cellsOf e) k && Nat.beq (P.cellsOf t) (m * k)) (some (m * k)) none
      | none => none
    | some (.struct fs) => match pcsF P (u8T P n) fs.toList with
      | some l => match sumPc 0 l with
        | some k => cond (Nat.beq (P.cellsOf t) k) (some k) none
        | none => none
      | none => none
    | _ => none
def U8s (cs : List Value) : Prop := ∀ (i : Nat) (v : Value), cs[i]? = some v → ∃ n : Int, v = .int .u8 n ∧ (Lit.int .u8 n).wf = true

omit [Glo] in
theorem sumPc_in : ∀ (l : List (Nat × Nat)) (off tot : Nat), sumPc off l = some tot → ∀ i, off ≤ i → i < tot → ∃ p ∈ l, p.1 ≤ i ∧ i < p.1 + p.2
  | [], off, tot, h, i, h1, h2 => by simp only [sumPc, Option.some.injEq] at h; omega
  | (o, k) :: r, off, tot, h, i, h1, h2 => by
    simp only [sumPc] at h
    cases c : Nat.beq o off <;> rw [c] at h
    · cases h
    · have e : o = off := by simpa using c
      subst e
      by_cases hi : i < o + k
      · exact ⟨(o, k), by simp, h1, hi⟩
      · obtain ⟨p, hp, h3⟩ := sumPc_in r _ _ h i (by omega) h2
        exact ⟨p, by simp [hp], h3⟩
omit [Glo] in
theorem pcsF_in {P : Program} {g : TypeId → Option Nat} : ∀ (fs : List Field) (l : List (Nat × Nat)), pcsF P g fs = some l → ∀ p ∈ l, ∃ (i : Nat) (f : Field), fs[i]? = some f ∧ f.offset = p.1 ∧ g f.type = some p.2 ∧ P.cellsOf f.type = p.2
  | [], l, h, p, hp => by simp only [pcsF, Option.some.injEq] at h; subst h; cases hp
  | f :: r, l, h, p, hp => by
    simp only [pcsF] at h
    split at h
    · rename_i k hk
      split at h
      · rename_i l' hl'
        cases c : Nat.beq (P.cellsOf f.type) k <;> rw [c] at h
        · cases h
        · simp only [cond_true, Option.some.injEq] at h
          subst h
          rcases List.mem_cons.1 hp with rfl | hp
          · exact ⟨0, f, rfl, rfl, hk, by simpa using c⟩
          · obtain ⟨i, f', h1, h2⟩ := pcsF_in r l' hl' p hp
            exact ⟨i + 1, f', by simpa using h1, h2⟩
      · cases h
    · cases h

section
variable {H : Type} {enc : TypeId × Value → H} {P : Program} {w : World} {base : Nat} {sp : Nat → Bool} {held : Bool}
omit [Glo] in
theorem u8T_ok : ∀ (n : Nat) (t : TypeId) (fuel : Nat) (cs : List Value) (x : DataW H × List MemPlace) (k : Nat), u8T P n t = some k → DataW.trod enc P w base sp held fuel t cs = some x → U8s cs ∧ cs.length = k
  | 0, _, _, _, _, _, h, _ => by cases h
  | n + 1, t, fuel, cs, x, k, h, hx => by
    simp only [u8T] at h
    split at h
    · rename_i ht
      cases h
      obtain ⟨a, rfl, _, hw⟩ := DataW.trod_int ht hx
      refine ⟨fun i v hv => ?_, rfl⟩
      match i with
      | 0 => simp at hv; subst hv; exact ⟨a, rfl, hw⟩
      | i + 1 => simp at hv
    · rename_i m e ht
      split at h
      · rename_i k' hk'
        cases c : (Nat.beq (P.cellsOf e) k' && Nat.beq (P.cellsOf t) (m * k')) <;> rw [c] at h
        · cases h
        · simp only [cond_true, Option.some.injEq] at h
          subst h
          simp only [Bool.and_eq_true] at c
          have c1 : P.cellsOf e = k' := by simpa using c.1
          have c2 : P.cellsOf t = m * k' := by simpa using c.2
          obtain ⟨xs, m', _, _, hl, hxl, hf⟩ := DataW.trod_array ht hx
          rw [c2] at hl
          refine ⟨fun i v hv => ?_, hl⟩
          have hi : i < m * k' := by rw [← hl]; exact (List.getElem?_eq_some_iff.1 hv).1
          have hk0 : 0 < k' := by
            rcases Nat.eq_zero_or_pos k' with e0 | e0
            · rw [e0] at hi; simp at hi
            · exact e0
          have h1 : i / k' < m := (Nat.div_lt_iff_lt_mul hk0).2 hi
          have h2 : i % k' < k' := Nat.mod_lt _ hk0
          have h3 : (i / k') * k' + i % k' = i := by rw [Nat.mul_comm]; exact Nat.div_add_mod i k'
          have h4 := hf (i / k') h1
          rw [c1] at h4
          obtain ⟨y, hy⟩ : ∃ y, xs[i / k']? = some y := ⟨xs[i / k']'(by omega), List.getElem?_eq_getElem (by omega)⟩
          rw [hy] at h4
          obtain ⟨h5, _⟩ := u8T_ok n e m' _ y k' hk' h4
          refine h5 (i % k') v ?_
          rw [List.getElem?_take, if_pos h2, List.getElem?_drop, h3]
          exact hv
      · cases h
    · rename_i fs ht
      split at h
      · rename_i l hl'
        split at h
        · rename_i k' hk'
          cases c : Nat.beq (P.cellsOf t) k' <;> rw [c] at h
          · cases h
          · simp only [cond_true, Option.some.injEq] at h
            subst h
            have c2 : P.cellsOf t = k' := by simpa using c
            obtain ⟨xs, m', _, _, hl, hxl, hf⟩ := DataW.trod_struct ht hx
            rw [c2] at hl
            refine ⟨fun i v hv => ?_, hl⟩
            have hi : i < k' := by rw [← hl]; exact (List.getElem?_eq_some_iff.1 hv).1
            obtain ⟨p, hp, p1, p2⟩ := sumPc_in l 0 k' hk' i (Nat.zero_le _) hi
            obtain ⟨j, f, f1, f2, f3, f4⟩ := pcsF_in _ _ hl' p hp
            have f1' : fs[j]? = some f := by simpa using f1
            have hj : j < fs.size := (Array.getElem?_eq_some_iff.1 f1').1
            have h4 := hf j f f1'
            rw [f4, f2] at h4
            obtain ⟨y, hy⟩ : ∃ y, xs[j]? = some y := ⟨xs[j]'(by omega), List.getElem?_eq_getElem (by omega)⟩
            rw [hy] at h4
            obtain ⟨h5, _⟩ := u8T_ok n f.type m' _ y p.2 f3 h4
            refine h5 (i - p.1) v ?_
            rw [List.getElem?_take, if_pos (by omega), List.getElem?_drop, show p.1 + (i - p.1) = i by omega]
            exact hv
        · cases h
      · cases h
    · cases h

omit [Glo] in
theorem u8s_list : ∀ {cs : List Value}, U8s cs → ∃ ns : List Int, cs = ns.map (Value.int .u8) ∧ ∀ n ∈ ns, 0 ≤ n ∧ n < 256
  | [], _ => ⟨[], rfl, by simp⟩
  | v :: r, h => by
    obtain ⟨n, rfl, hw⟩ := h 0 v rfl
    obtain ⟨ns, e, hb⟩ := u8s_list (cs := r) fun i v hv => h (i + 1) v (by simpa using hv)
    refine ⟨n :: ns, by rw [e]; rfl, ?_⟩
    intro x hx
    rcases List.mem_cons.1 hx with rfl | hx
    · have := bounds_u8 hw; omega
    · exact hb x hx

omit [Glo] in
theorem argOk_bytes (w : World) (ns : List Int) : ArgOk w (.agg (ns.map (Value.int .u8)).toArray) (.agg (ns.map (LV.int .u8))) := by
  refine ⟨fun _ => [], [], fun _ => .agg (ns.map (AV.int .u8)), fun _ => rfl, fun ρ b _ => ⟨.agg ?_, fun i cs p h => by simp at h⟩, fun s b _ => .agg ?_⟩
  · show VRs ρ _ (ns.map (Value.int .u8)).toArray.toList
    simp only []
    induction ns with
    | nil => exact .nil
    | cons n r ih => exact .cons (.int _ _) ih
  · exact LRs.map _ fun x _ => .int _ _

omit [Glo] in
/-- A struct of bytes among the arguments. -/
theorem argOk_struct {r : Reach} {b0 n k : Nat} {t : TypeId} {fs : Array Field} {v : Value} {d : DataW H} {ps : List MemPlace} (ht : P.underlying t = some (.struct fs)) (hk : u8T P n t = some k)
    (hval : Value.okWide P w r b0 t v) (hd : DataW.Trod enc P w base sp held t v d ps) :
    ∃ ns : List Int, ns.length = k ∧ (∀ n ∈ ns, 0 ≤ n ∧ n < 256) ∧ ArgOk w v (.agg (ns.map (LV.int .u8))) := by
  obtain ⟨cs, rfl, _⟩ := Go.WideShapes.okWide_struct ht hval
  obtain ⟨fuel, hf⟩ := hd
  obtain ⟨h1, h2⟩ := u8T_ok n t fuel _ _ k hk hf
  obtain ⟨ns, e, hb⟩ := u8s_list h1
  have e' : cs = (ns.map (Value.int .u8)).toArray := by
    apply Array.ext'
    simpa [Value.cells] using e
  subst e'
  refine ⟨ns, ?_, hb, argOk_bytes w ns⟩
  simpa [Value.cells] using h2
end
end Go.Am


