import Derived.Test.YtcckhkcchpfdoaaShareL
import Derived.Test.YtcckhkcchpfdoaaLm10
import Derived.KernelRfl
import Derived.Test.YtcckhkcchpfdoaaShareC9
/-
  The examples of chapter 07 hold: the list machine's run, evaluated by the kernel.
-/
set_option maxRecDepth 100000
namespace Go.Am.Share
theorem works_run : isTrueL (callL LP 2000 n_law07_works [] []) = true := by kernel_rfl
theorem works_c (m : LMem) : clF LP n_law07_works [] m = some (.P, .bool true, m) := call_run lp_law07_works rfl works_run m
end Go.Am.Share

/-
  What functions of chapter 07 compute, 10: two lists are the same; lists are large; the law of why.
-/
set_option linter.unusedVariables false
set_option linter.unusedSimpArgs false
set_option maxRecDepth 10000
namespace Go.Am.Share

end Go.Am.Share
namespace Go.Am.Share
end Go.Am.Share

/-
  What functions of chapter 07 compute, 11: all worths; the law of worths.
-/
set_option linter.unusedVariables false
set_option linter.unusedSimpArgs false
set_option maxRecDepth 10000
namespace Go.Am.Share

abbrev ints (l : List Int) : List LV := l.map (LV.int .i64)
abbrev rlv (l : List Int) : LV := IL false false 1 l
def WMem (ds : LMem) (R : List (List Int)) : LMem := match R with
  | [] => ds
  | r :: rs => ds ++ (⟨ints r, false⟩ :: ⟨(r :: rs).map rlv, true⟩ :: rs.map fun r => ⟨ints r, false⟩)
def WVal (b : Nat) (R : List (List Int)) : LV := if R = [] then .lst true true 0 0 [] else .sl (b + 1) 0 R.length R.length 1 1 R.length
theorem pures_rlv (R : List (List Int)) : LV.pures (R.map rlv) = true := by
  induction R with
  | nil => rfl
  | cons a r ih => simp [LV.pures, LV.pure, ih]
theorem view_row (pre : LMem) (l : List Int) (hl : l ≠ []) : views (pre ++ GM l) [GV pre.length l] = some ([rlv l], [pre.length]) := by
  have hv : ∀ k, view (k + 3) (pre ++ GM l) (GV pre.length l) = some (rlv l, [pre.length]) := fun k => by
    have := view_grow k pre l
    have hd : decide (l = []) = false := by simpa using hl
    rw [if_neg hl] at this
    simp only [RL, hd, cond_false] at this
    exact this
  have hnp : LV.pures [GV pre.length l] = false := by simp [GV, hl, LV.pures, LV.pure]
  unfold views
  rw [viewL.eq_def]
  simp only [hnp, cond_false]
  rw [viewC.eq_def]
  simp only [hv 35]
  rw [viewC.eq_def]
  rfl
theorem freeze_row (pre : LMem) (l : List Int) (hl : l ≠ []) : freeze [pre.length] (pre ++ GM l) = pre ++ [⟨ints l, false⟩] := by
  simp [freeze, freeze1, GM, hl]
theorem worth_app (ds : LMem) (R : List (List Int)) (l : List Int) (hR : R.length < 1000000) : appendL (WMem ds R ++ [⟨ints l, false⟩]) 1 24 (WVal ds.length R) (.lst false true 1 1 [rlv l]) = some (WVal ds.length (R ++ [l]), WMem ds (R ++ [l])) := by
  have h3 : ∀ m, contents m 1 (.lst false true 1 1 [rlv l]) = some ([rlv l], 1) := fun m => rfl
  have hroom : (Nat.ble ((R.length + 1) * 24) roomMost && Nat.ble (R.length + 1) roomMost && [rlv l].all LV.scalar) = true := by
    have h1 : (R.length + 1) * 24 ≤ roomMost := by unfold roomMost; omega
    have h2 : R.length + 1 ≤ roomMost := by unfold roomMost; omega
    simp [nble, h1, h2, LV.scalar]
  cases R with
  | nil =>
    simp only [WMem, WVal, appendL, h3]
    simp [contents, newSl, roomMost, nble, nbeq, LV.scalar]
  | cons r rs =>
    have h1 : (WMem ds (r :: rs) ++ [⟨ints l, false⟩])[ds.length + 1]? = some ⟨(r :: rs).map rlv, true⟩ := by simp [WMem]
    have h2 : contents (WMem ds (r :: rs) ++ [⟨ints l, false⟩]) 1 (WVal ds.length (r :: rs)) = some ((r :: rs).map rlv, (r :: rs).length) := by
      simp only [WVal, if_neg (List.cons_ne_nil r rs), contents, h1]
      simp only [List.drop_zero, Nat.zero_add, nble, nbeq, Nat.mul_one, List.length_map, Nat.le_refl, decide_true, Bool.and_self, cond_true]
      rw [List.take_of_length_le (by simp)]
    have h5 : Nat.ble ((r :: rs).length + 1) (r :: rs).length = false := by rw [nble]; simp
    have h6 : Nat.blt (r :: rs).length (((r :: rs).length + 1) * 1) = true := by rw [nblt, decide_eq_true_eq]; omega
    unfold appendL
    simp only [h2, h3, hroom]
    simp only [WVal, if_neg (List.cons_ne_nil r rs), h1, h5, h6]
    simp [WMem, nbeq]

/-- One finder's worths. -/
def wrow (V : List (List Int)) (o : List Int) (i k n : Nat) : List Int := (List.range' k n).map fun j : Nat => ws (j : Int) (V.getD i []) o 0
theorem wrow_succ (V : List (List Int)) (o : List Int) (i k n : Nat) : wrow V o i k (n + 1) = [ws (k : Int) (V.getD i []) o 0] ++ wrow V o i (k + 1) n := by unfold wrow; rw [List.range'_succ]; rfl
theorem WMem_0 (d : LBlk) (R : List (List Int)) (m : LMem) : (WMem [d] R ++ m)[0]? = some d := by cases R <;> simp [WMem]
theorem share_d (nl ex nl' ex' : Bool) (sz sz' : Nat) {rs : List Row} {o : List Int} (D : DOk rs o) {i : Nat} (hi : i < rs.length) (j : Nat) (m : LMem) :
    clF LP n_share_division_share [.agg [VL nl ex sz rs, IL nl' ex' sz' o], .int .i64 (i : Int), .int .i64 (j : Int)] m = some (.P, .tup [.int .i64 (ws j ((vals rs).getD i []) o 0), .int .i64 (wg j rs[i].l o (0, 0)).2], m) := by
  rw [share_c nl ex nl' ex' sz sz' rs i hi o (D.len i hi) (D.ok i hi) (by have := D.le6; omega) j m, wg_ws, vals_at rs i hi]
theorem worthP_inner (nl ex nl' ex' : Bool) (sz sz' : Nat) {rs : List Row} {o : List Int} (D : DOk rs o) {i : Nat} (hi : i < rs.length) (R : List (List Int)) (n : Nat) : ∀ (k : Nat) (l : List Int), k + n = rs.length → l.length + n ≤ 10000 →
    exF LP share_Worth.L0 [(6, .ptr 0 0 2), (8, WVal 1 R), (9, .int .i64 (i : Int)), (10, GV (WMem [⟨[VL nl ex sz rs, IL nl' ex' sz' o], true⟩] R).length l), (25, .int .i64 (rs.length : Int)), (26, .int .i64 (i : Int)), (31, .int .i64 (rs.length : Int)), (32, .int .i64 (k : Int))] (WMem [⟨[VL nl ex sz rs, IL nl' ex' sz' o], true⟩] R ++ GM l) =
      some (.exit 2, [(6, .ptr 0 0 2), (8, WVal 1 R), (10, GV (WMem [⟨[VL nl ex sz rs, IL nl' ex' sz' o], true⟩] R).length (l ++ wrow (vals rs) o i k n)), (25, .int .i64 (rs.length : Int)), (26, .int .i64 (i : Int))], WMem [⟨[VL nl ex sz rs, IL nl' ex' sz' o], true⟩] R ++ GM (l ++ wrow (vals rs) o i k n)) := by
  have h4 := D.le4
  induction n with
  | zero =>
    intro k l hk hl
    rw [share_Worth.L0_eq]
    simp only [share_Worth.B0, beqT, beqF, exF_seq, exF_region, exF_block, exF_cond, exF_ret, exF_exit, exF_skip, runL, wantL, stepL, evL, evC, LEnv.at, putL, loadFine, loadL, cellsAt, Trk.putNew, Trk.up, Trk.touch, Trk.gives, Trk.calm, Trk.hit, opdsOf, Trk.fresh, LEnv.keep, LEnv.ofFrom, List.map_cons, List.map_nil, nbeq, nble, nblt, ofAV, ofAVs, lenL, bin_add, bin_sub, bin_mul, bin_eql, bin_neq, bin_lss, bin_leq, bin_gtr, bin_geq, natL_nat, natL_zero, natL_one, natL_two, Nat.zero_mul, List.any_cons, List.any_nil, Bool.or_false, Bool.false_or, Bool.true_or, Bool.or_true, Bool.and_true, Bool.true_and, Bool.and_false, Bool.false_and, Bool.not_true, Bool.not_false, Nat.reduceBEq, Nat.reduceEqDiff, decide_true, decide_false, cond_true, cond_false, List.filter_nil, List.filter_cons, Nat.reduceAdd, Nat.reduceLeDiff, reduceCtorEq, List.length_nil, List.length_cons, Nat.mul_one, if_true, if_false, Bool.false_eq_true, eq_self, and_true, true_and, retL, resultsL, resAllL, resOfL, List.append_nil, List.nil_append, List.cons_append, true_or, or_true, false_or, or_false, false_and, and_false, not_true_eq_false, not_false_eq_true, ne_eq, unL, trim_nil, views_pures, LV.pures, LV.pure, freeze, Nat.reduceDiv, Int.reduceEq, Int.reduceLT, Int.reduceLE, Int.natCast_zero, LV.cells, allocL, List.getElem?_cons_zero, List.getElem?_cons_succ, storeL, spliceL, List.take_zero, List.take_succ_cons, List.drop_zero, List.drop_succ_cons, List.drop_nil, List.take_nil, Nat.le_refl, Nat.reduceMul, List.set_cons_zero, List.set_cons_succ, LV.scalar, List.all_cons, List.all_nil, Nat.lt_add_one, Nat.zero_lt_one, Nat.reduceLT, Nat.lt_irrefl, fillL, List.length_append, foldIntL, kind_beq, pures_int, solids_int, plains_int, unders_int, scalars_int, show ¬ ((k : Int) < (rs.length : Int)) by omega, wrow, List.range'_zero]
  | succ n ih =>
    intro k l hk hl
    have hk2 : (k : Int) < (rs.length : Int) := by omega
    rw [share_Worth.L0_eq, wrow_succ]
    have ws := wrap_succ (show k + 1 < 9223372036854775808 by omega)
    have ih := ih (k + 1) (l ++ [Share.ws (k : Int) ((vals rs).getD i []) o 0]) (by omega) (by simp; omega)
    have a1 := append_grow (WMem [⟨[VL nl ex sz rs, IL nl' ex' sz' o], true⟩] R) l (Share.ws (k : Int) ((vals rs).getD i []) o 0) true (by omega)
    simp only [share_Worth.B0, beqT, beqF, exF_seq, exF_region, exF_block, exF_cond, exF_ret, exF_exit, exF_skip, runL, wantL, stepL, evL, evC, LEnv.at, putL, loadFine, loadL, cellsAt, Trk.putNew, Trk.up, Trk.touch, Trk.gives, Trk.calm, Trk.hit, opdsOf, Trk.fresh, LEnv.keep, LEnv.ofFrom, List.map_cons, List.map_nil, nbeq, nble, nblt, ofAV, ofAVs, lenL, bin_add, bin_sub, bin_mul, bin_eql, bin_neq, bin_lss, bin_leq, bin_gtr, bin_geq, natL_nat, natL_zero, natL_one, natL_two, Nat.zero_mul, List.any_cons, List.any_nil, Bool.or_false, Bool.false_or, Bool.true_or, Bool.or_true, Bool.and_true, Bool.true_and, Bool.and_false, Bool.false_and, Bool.not_true, Bool.not_false, Nat.reduceBEq, Nat.reduceEqDiff, decide_true, decide_false, cond_true, cond_false, List.filter_nil, List.filter_cons, Nat.reduceAdd, Nat.reduceLeDiff, reduceCtorEq, List.length_nil, List.length_cons, Nat.mul_one, if_true, if_false, Bool.false_eq_true, eq_self, and_true, true_and, retL, resultsL, resAllL, resOfL, List.append_nil, List.nil_append, List.cons_append, true_or, or_true, false_or, or_false, false_and, and_false, not_true_eq_false, not_false_eq_true, ne_eq, unL, trim_nil, views_pures, LV.pures, LV.pure, freeze, Nat.reduceDiv, Int.reduceEq, Int.reduceLT, Int.reduceLE, Int.natCast_zero, LV.cells, allocL, List.getElem?_cons_zero, List.getElem?_cons_succ, storeL, spliceL, List.take_zero, List.take_succ_cons, List.drop_zero, List.drop_succ_cons, List.drop_nil, List.take_nil, Nat.le_refl, Nat.reduceMul, List.set_cons_zero, List.set_cons_succ, LV.scalar, List.all_cons, List.all_nil, Nat.lt_add_one, Nat.zero_lt_one, Nat.reduceLT, Nat.lt_irrefl, fillL, foldIntL, kind_beq, pures_int, solids_int, plains_int, unders_int, scalars_int, hk2, WMem_0, share_d _ _ _ _ _ _ D hi, ws, ih, a1, List.append_assoc]
def wrows (V : List (List Int)) (o : List Int) (N k n : Nat) : List (List Int) := (List.range' k n).map fun i => wrow V o i 0 N
theorem wrows_succ (V : List (List Int)) (o : List Int) (N k n : Nat) : wrows V o N k (n + 1) = [wrow V o k 0 N] ++ wrows V o N (k + 1) n := by unfold wrows; rw [List.range'_succ]; rfl
theorem wrow_ne (V : List (List Int)) (o : List Int) (i N : Nat) (h : 0 < N) : wrow V o i 0 N ≠ [] := by
  unfold wrow; cases N with
  | zero => omega
  | succ n => rw [List.range'_succ]; simp
theorem worthP_outer (nl ex nl' ex' : Bool) (sz sz' : Nat) {rs : List Row} {o : List Int} (D : DOk rs o) (n : Nat) : ∀ (k : Nat) (R : List (List Int)), k + n = rs.length → R.length + n ≤ 10000 →
    exF LP share_Worth.L1 [(6, .ptr 0 0 2), (8, WVal 1 R), (25, .int .i64 (rs.length : Int)), (26, .int .i64 (k : Int))] (WMem [⟨[VL nl ex sz rs, IL nl' ex' sz' o], true⟩] R) =
      some (.exit 0, [(8, WVal 1 (R ++ wrows (vals rs) o rs.length k n))], WMem [⟨[VL nl ex sz rs, IL nl' ex' sz' o], true⟩] (R ++ wrows (vals rs) o rs.length k n)) := by
  have h4 := D.le4
  induction n with
  | zero =>
    intro k R hk hR
    rw [share_Worth.L1_eq]
    simp only [share_Worth.B1, beqT, beqF, exF_seq, exF_region, exF_block, exF_cond, exF_ret, exF_exit, exF_skip, runL, wantL, stepL, evL, evC, LEnv.at, putL, loadFine, loadL, cellsAt, Trk.putNew, Trk.up, Trk.touch, Trk.gives, Trk.calm, Trk.hit, opdsOf, Trk.fresh, LEnv.keep, LEnv.ofFrom, List.map_cons, List.map_nil, nbeq, nble, nblt, ofAV, ofAVs, lenL, bin_add, bin_sub, bin_mul, bin_eql, bin_neq, bin_lss, bin_leq, bin_gtr, bin_geq, natL_nat, natL_zero, natL_one, natL_two, Nat.zero_mul, List.any_cons, List.any_nil, Bool.or_false, Bool.false_or, Bool.true_or, Bool.or_true, Bool.and_true, Bool.true_and, Bool.and_false, Bool.false_and, Bool.not_true, Bool.not_false, Nat.reduceBEq, Nat.reduceEqDiff, decide_true, decide_false, cond_true, cond_false, List.filter_nil, List.filter_cons, Nat.reduceAdd, Nat.reduceLeDiff, reduceCtorEq, List.length_nil, List.length_cons, Nat.mul_one, if_true, if_false, Bool.false_eq_true, eq_self, and_true, true_and, retL, resultsL, resAllL, resOfL, List.append_nil, List.nil_append, List.cons_append, true_or, or_true, false_or, or_false, false_and, and_false, not_true_eq_false, not_false_eq_true, ne_eq, unL, trim_nil, views_pures, LV.pures, LV.pure, freeze, Nat.reduceDiv, Int.reduceEq, Int.reduceLT, Int.reduceLE, Int.natCast_zero, LV.cells, allocL, List.getElem?_cons_zero, List.getElem?_cons_succ, storeL, spliceL, List.take_zero, List.take_succ_cons, List.drop_zero, List.drop_succ_cons, List.drop_nil, List.take_nil, Nat.le_refl, Nat.reduceMul, List.set_cons_zero, List.set_cons_succ, LV.scalar, List.all_cons, List.all_nil, Nat.lt_add_one, Nat.zero_lt_one, Nat.reduceLT, Nat.lt_irrefl, fillL, List.length_append, foldIntL, kind_beq, pures_int, solids_int, plains_int, unders_int, scalars_int, show ¬ ((k : Int) < (rs.length : Int)) by omega, wrows, List.range'_zero]
  | succ n ih =>
    intro k R hk hR
    have hk2 : (k : Int) < (rs.length : Int) := by omega
    have hk3 : k < rs.length := by omega
    rw [share_Worth.L1_eq, wrows_succ]
    have ws := wrap_succ (show k + 1 < 9223372036854775808 by omega)
    have hin := worthP_inner nl ex nl' ex' sz sz' D hk3 R rs.length 0 [] (by omega) (by simp; omega)
    have hne := wrow_ne (vals rs) o k rs.length (by omega)
    simp only [List.nil_append] at hin
    generalize wrow (vals rs) o k 0 rs.length = l at *
    have v1 := view_row (WMem [⟨[VL nl ex sz rs, IL nl' ex' sz' o], true⟩] R) l hne
    have v2 := freeze_row (WMem [⟨[VL nl ex sz rs, IL nl' ex' sz' o], true⟩] R) l hne
    have a1 := worth_app [⟨[VL nl ex sz rs, IL nl' ex' sz' o], true⟩] R l (by omega)
    rw [List.length_singleton] at a1
    have ih := ih (k + 1) (R ++ [l]) (by omega) (by simp; omega)
    rw [GV_nil, GM_nil, List.append_nil] at hin
    simp only [Int.natCast_zero] at hin
    have w0 : (WMem [⟨[VL nl ex sz rs, IL nl' ex' sz' o], true⟩] R)[0]? = some ⟨[VL nl ex sz rs, IL nl' ex' sz' o], true⟩ := by
      have := WMem_0 ⟨[VL nl ex sz rs, IL nl' ex' sz' o], true⟩ R []
      simpa using this
    have hcells : (GV (WMem [⟨[VL nl ex sz rs, IL nl' ex' sz' o], true⟩] R).length l).cells = some [GV (WMem [⟨[VL nl ex sz rs, IL nl' ex' sz' o], true⟩] R).length l] := by simp [GV, hne, LV.cells]
    simp only [share_Worth.B1, beqT, beqF, exF_seq, exF_region, exF_block, exF_cond, exF_ret, exF_exit, exF_skip, runL, wantL, stepL, evL, evC, LEnv.at, putL, loadFine, loadL, cellsAt, Trk.putNew, Trk.up, Trk.touch, Trk.gives, Trk.calm, Trk.hit, opdsOf, Trk.fresh, LEnv.keep, LEnv.ofFrom, List.map_cons, List.map_nil, nbeq, nble, nblt, ofAV, ofAVs, lenL, bin_add, bin_sub, bin_mul, bin_eql, bin_neq, bin_lss, bin_leq, bin_gtr, bin_geq, natL_nat, natL_zero, natL_one, natL_two, Nat.zero_mul, List.any_cons, List.any_nil, Bool.or_false, Bool.false_or, Bool.true_or, Bool.or_true, Bool.and_true, Bool.true_and, Bool.and_false, Bool.false_and, Bool.not_true, Bool.not_false, Nat.reduceBEq, Nat.reduceEqDiff, decide_true, decide_false, cond_true, cond_false, List.filter_nil, List.filter_cons, Nat.reduceAdd, Nat.reduceLeDiff, reduceCtorEq, List.length_nil, List.length_cons, Nat.mul_one, if_true, if_false, Bool.false_eq_true, eq_self, and_true, true_and, retL, resultsL, resAllL, resOfL, List.append_nil, List.nil_append, true_or, or_true, false_or, or_false, false_and, and_false, not_true_eq_false, not_false_eq_true, ne_eq, unL, trim_nil, LV.pures, LV.pure, Nat.reduceDiv, Int.reduceEq, Int.reduceLT, Int.reduceLE, Int.natCast_zero, allocL, List.getElem?_cons_zero, List.getElem?_cons_succ, storeL, spliceL, List.take_zero, List.take_succ_cons, List.drop_zero, List.drop_succ_cons, List.drop_nil, List.take_nil, Nat.le_refl, Nat.reduceMul, List.set_cons_zero, List.set_cons_succ, LV.scalar, List.all_cons, List.all_nil, Nat.lt_add_one, Nat.zero_lt_one, Nat.reduceLT, Nat.lt_irrefl, fillL, foldIntL, kind_beq, pures_int, solids_int, plains_int, unders_int, scalars_int, hk2, w0, hin, ws, ih, hcells, v1, v2, a1, List.length_singleton, List.append_assoc]
/-- All worths, as a list that was handed back. -/
abbrev RW (R : List (List Int)) : LV := .lst (decide (R = [])) (decide (R = [])) (cond (decide (R = [])) 0 1) R.length (R.map rlv)
def worthV (V : List (List Int)) (o : List Int) : List (List Int) := if divE V o ≠ 0 then [] else wrows V o V.length 0 V.length
theorem view_W (ds : LMem) (R : List (List Int)) (e : LV) (he : e.pure = true) : ∃ ids, view 40 (WMem ds R) (.tup [WVal ds.length R, e]) = some (.tup [RW R, e], ids) := by
  cases R with
  | nil => exact ⟨[], by rw [view_pure 38 _ _ (by simp [LV.pures, LV.pure, he, WVal])]; rfl⟩
  | cons r rs =>
    have h1 : (WMem ds (r :: rs))[ds.length + 1]? = some ⟨(r :: rs).map rlv, true⟩ := by simp [WMem]
    have v1 : ∀ k, view (k + 3) (WMem ds (r :: rs)) (WVal ds.length (r :: rs)) = some (RW (r :: rs), [ds.length + 1]) := fun k => by
      have hp := pures_rlv (r :: rs)
      simp only [WVal, if_neg (List.cons_ne_nil r rs), view, h1]
      have h2 : (((r :: rs).map rlv).drop 0).take ((r :: rs).length * 1) = (r :: rs).map rlv := by rw [List.drop_zero, List.take_of_length_le (by simp)]
      simp only [h2, viewL_pures _ _ _ hp]
      simp [nbeq, nble]
    have hnp : LV.pures [WVal ds.length (r :: rs), e] = false := by simp [WVal, LV.pures, LV.pure]
    refine ⟨[ds.length + 1] ++ ([] ++ []), ?_⟩
    rw [view.eq_def]
    simp only
    rw [viewL.eq_def]
    simp only [hnp, cond_false]
    rw [viewC.eq_def]
    simp only [v1 34]
    rw [viewC.eq_def]
    simp only [view_pure 34 _ e he]
    rw [viewC.eq_def]
theorem worthP_c (nl ex nl' ex' : Bool) (sz sz' : Nat) (rs : List Row) (o : List Int) (I : In rs nl' sz' o) (m : LMem) : clF LP n_share_Worth [VL nl ex sz rs, IL nl' ex' sz' o] m = some (.P, .tup [RW (worthV (vals rs) o), .int .i64 (divE (vals rs) o)], m) := by
  obtain ⟨h1, h2⟩ := opened_c nl ex nl' ex' sz sz' rs o I.hl I.hr I.ho I.hsz I.hnl []
  by_cases hd : divE (vals rs) o = 0
  · obtain ⟨nl2, ex2, sz2, h3, _⟩ := h2 hd
    have D := dok_of hd
    have hne : ¬ (divE (vals rs) o ≠ 0) := by simpa using hd
    have h := worthP_outer nl ex nl2 ex2 sz sz2 D rs.length 0 [] (by omega) (by have := D.le4; simp; omega)
    simp only [List.nil_append, Int.natCast_zero] at h
    have h4 : exF LP share_Worth.L1 [(6, .ptr 0 0 2), (8, LNIL), (25, .int .i64 (rs.length : Int)), (26, .int .i64 0)] [⟨[VL nl ex sz rs, IL nl2 ex2 sz2 o], true⟩] = some (.exit 0, [(8, WVal 1 (wrows (vals rs) o rs.length 0 rs.length))], WMem [⟨[VL nl ex sz rs, IL nl2 ex2 sz2 o], true⟩] (wrows (vals rs) o rs.length 0 rs.length)) := h
    unfold worthV
    rw [if_neg hne, vals_length]
    obtain ⟨ids, hv⟩ := view_W [⟨[VL nl ex sz rs, IL nl2 ex2 sz2 o], true⟩] (wrows (vals rs) o rs.length 0 rs.length) (.int .i64 (divE (vals rs) o)) rfl
    refine call_Pv lp_share_Worth rfl (by simp [LV.pures, LV.pure]) ?_ hv m
    simp only [share_Worth, share_Worth.B, beqT, beqF, exF_seq, exF_region, exF_block, exF_cond, exF_ret, exF_exit, exF_skip, runL, wantL, stepL, evL, evC, LEnv.at, putL, loadFine, loadL, cellsAt, Trk.putNew, Trk.up, Trk.touch, Trk.gives, Trk.calm, Trk.hit, opdsOf, Trk.fresh, LEnv.keep, LEnv.ofFrom, List.map_cons, List.map_nil, nbeq, nble, nblt, ofAV, ofAVs, lenL, bin_add, bin_sub, bin_mul, bin_eql, bin_neq, bin_lss, bin_leq, bin_gtr, bin_geq, natL_nat, natL_zero, natL_one, natL_two, Nat.zero_mul, List.any_cons, List.any_nil, Bool.or_false, Bool.false_or, Bool.true_or, Bool.or_true, Bool.and_true, Bool.true_and, Bool.and_false, Bool.false_and, Bool.not_true, Bool.not_false, Nat.reduceBEq, Nat.reduceEqDiff, decide_true, decide_false, cond_true, cond_false, List.filter_nil, List.filter_cons, Nat.reduceAdd, Nat.reduceLeDiff, reduceCtorEq, List.length_nil, List.length_cons, Nat.mul_one, if_true, if_false, Bool.false_eq_true, eq_self, and_true, true_and, retL, resultsL, resAllL, resOfL, List.append_nil, List.nil_append, List.cons_append, true_or, or_true, false_or, or_false, false_and, and_false, not_true_eq_false, not_false_eq_true, ne_eq, unL, trim_nil, views_pures, LV.pures, LV.pure, freeze, Nat.reduceDiv, Int.reduceEq, Int.reduceLT, Int.reduceLE, Int.natCast_zero, LV.cells, allocL, List.getElem?_cons_zero, List.getElem?_cons_succ, storeL, spliceL, List.take_zero, List.take_succ_cons, List.drop_zero, List.drop_succ_cons, List.drop_nil, List.take_nil, Nat.le_refl, Nat.reduceMul, List.set_cons_zero, List.set_cons_succ, LV.scalar, List.all_cons, List.all_nil, Nat.lt_add_one, Nat.zero_lt_one, Nat.reduceLT, Nat.lt_irrefl, fillL, foldIntL, kind_beq, pures_int, solids_int, plains_int, unders_int, scalars_int, h3, hd, h4, List.length_singleton]
  · have h1 := h1 hd
    refine call_P lp_share_Worth rfl (by simp [LV.pures, LV.pure]) (m1 := [⟨[LNIL, LNIL], true⟩]) ?_ (by simp [LV.pures, LV.pure]) m
    simp only [share_Worth, share_Worth.B, beqT, beqF, exF_seq, exF_region, exF_block, exF_cond, exF_ret, exF_exit, exF_skip, runL, wantL, stepL, evL, evC, LEnv.at, putL, loadFine, loadL, cellsAt, Trk.putNew, Trk.up, Trk.touch, Trk.gives, Trk.calm, Trk.hit, opdsOf, Trk.fresh, LEnv.keep, LEnv.ofFrom, List.map_cons, List.map_nil, nbeq, nble, nblt, ofAV, ofAVs, lenL, bin_add, bin_sub, bin_mul, bin_eql, bin_neq, bin_lss, bin_leq, bin_gtr, bin_geq, natL_nat, natL_zero, natL_one, natL_two, Nat.zero_mul, List.any_cons, List.any_nil, Bool.or_false, Bool.false_or, Bool.true_or, Bool.or_true, Bool.and_true, Bool.true_and, Bool.and_false, Bool.false_and, Bool.not_true, Bool.not_false, Nat.reduceBEq, Nat.reduceEqDiff, decide_true, decide_false, cond_true, cond_false, List.filter_nil, List.filter_cons, Nat.reduceAdd, Nat.reduceLeDiff, reduceCtorEq, List.length_nil, List.length_cons, Nat.mul_one, if_true, if_false, Bool.false_eq_true, eq_self, and_true, true_and, retL, resultsL, resAllL, resOfL, List.append_nil, List.nil_append, List.cons_append, true_or, or_true, false_or, or_false, false_and, and_false, not_true_eq_false, not_false_eq_true, ne_eq, unL, trim_nil, views_pures, LV.pures, LV.pure, freeze, Nat.reduceDiv, Int.reduceEq, Int.reduceLT, Int.reduceLE, Int.natCast_zero, LV.cells, allocL, List.getElem?_cons_zero, List.getElem?_cons_succ, storeL, spliceL, List.take_zero, List.take_succ_cons, List.drop_zero, List.drop_succ_cons, List.drop_nil, List.take_nil, Nat.le_refl, Nat.reduceMul, List.set_cons_zero, List.set_cons_succ, LV.scalar, List.all_cons, List.all_nil, Nat.lt_add_one, Nat.zero_lt_one, Nat.reduceLT, Nat.lt_irrefl, fillL, foldIntL, kind_beq, pures_int, solids_int, plains_int, unders_int, scalars_int, h1, worthV, hd]
    rfl

end Go.Am.Share

/-
  What functions of chapter 07 compute, 13: divisions in which nothing is given; numbers in lists.
-/
set_option linter.unusedVariables false
set_option linter.unusedSimpArgs false
set_option maxRecDepth 10000
namespace Go.Am
theorem freeze_nil (m : LMem) : freeze [] m = m := by
  unfold freeze; simp
namespace Share

end Share
end Go.Am


