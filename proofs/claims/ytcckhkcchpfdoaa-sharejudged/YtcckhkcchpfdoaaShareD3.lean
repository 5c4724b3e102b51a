/-
  What functions of chapter 07 compute, outright 3: envy, and how fair a division is.
-/
import Derived.Test.YtcckhkcchpfdoaaShareD1
set_option linter.unusedVariables false
set_option linter.unusedSimpArgs false
set_option maxRecDepth 10000
set_option maxHeartbeats 400000
namespace Go.Am.Share
open Go.Am.G

def mchF (j a b : Int) : List Int → List Int → Bool → Bool
  | v :: vs, o :: os, m => mchF j a b vs os (if o = j ∧ a - v ≤ b then false else m)
  | _, _, m => m
theorem mchF_wg (j a b : Int) : ∀ (v o : List Int) (s g : Int), mchF j a b v o (decide (g < a - b)) = decide ((wg j v o (s, g)).2 < a - b)
  | [], _, s, g => rfl
  | v :: vs, [], s, g => rfl
  | v :: vs, o :: os, s, g => by
    rw [mchF, wg]
    by_cases h : o = j
    · rw [if_pos h]
      have := mchF_wg j a b vs os (s + v) (if v > g then v else g)
      rw [← this]
      congr 1
      by_cases c : a - v ≤ b
      · rw [if_pos ⟨h, c⟩]
        symm
        rw [decide_eq_false_iff_not]
        split <;> omega
      · rw [if_neg (fun q => c q.2), decide_eq_decide]
        split <;> omega
    · rw [if_neg h, if_neg (fun q => h q.1)]
      exact mchF_wg j a b vs os s g
theorem much_eX {rs : List Row} {o : List Int} (D : LOk rs o) {i : Nat} (hi : i < rs.length) (j : Nat) : mchF (j : Int) (ws (j : Int) rs[i].l o 0) (ws (i : Int) rs[i].l o 0) rs[i].l o (decide (0 < eW (vals rs) o i j)) = decide (0 < eX (vals rs) o i j) := by
  unfold eW eX
  rw [vals_at rs i hi, mchF_wg _ _ _ _ _ 0 0, decide_eq_decide]
  omega
theorem wr_row {rs : List Row} (o : List Int) {i : Nat} (hi : i < rs.length) : ((WR (vals rs) o).map Row.lv)[i]? = some (IL false true 1 (wrow (vals rs) o i 0 rs.length)) := by
  rw [row_at _ _ (show i < (WR (vals rs) o).length by rw [WR_len, vals_length]; exact hi), WR_at, vals_length]
theorem wr_int {rs : List Row} (o : List Int) {i j : Nat} (hi : i < rs.length) (hj : j < rs.length) : (ints (wrow (vals rs) o i 0 rs.length))[j]? = some (.int .i64 (ws (j : Int) rs[i].l o 0)) := by
  rw [int_get (by rw [wrow_len]; exact hj), wrow_at _ _ _ _ _ hj, vals_at rs i hi]
theorem envies_loop (nl ex nl' ex' : Bool) (sz sz' : Nat) {rs : List Row} {o : List Int} (D : LOk rs o) {i j : Nat} (hi : i < rs.length) (hj : j < rs.length) (e : Bool) (d : Nat) : ∀ (k : Nat) (mc : Bool), k + d = o.length →
    exF LP law07_envies.L0 [(0, VL nl ex sz rs), (2, .int .i64 (i : Int)), (3, .int .i64 (j : Int)), (8, .bool e), (9, .bool mc), (10, VL false true 1 (WR (vals rs) o)), (32, IL nl' ex' sz' o), (33, .int .i64 (o.length : Int)), (34, .int .i64 (k : Int))] [] =
      some (.exit 0, [(8, .bool e), (9, .bool (mchF (j : Int) (ws (j : Int) rs[i].l o 0) (ws (i : Int) rs[i].l o 0) (rs[i].l.drop k) (o.drop k) mc))], []) := by
  have hlen := D.len i hi
  have h6 := D.le6
  induction d with
  | zero =>
    intro k mc hk
    rw [law07_envies.L0_eq, List.drop_eq_nil_of_le (show o.length ≤ k by omega), List.drop_eq_nil_of_le (show rs[i].l.length ≤ k by omega)]
    have e0 : mchF (j : Int) (ws (j : Int) rs[i].l o 0) (ws (i : Int) rs[i].l o 0) [] [] mc = mc := rfl
    rw [e0]
    simp only [law07_envies.B0, beqT, beqF, exF_seq, exF_region, exF_block, exF_cond, exF_ret, exF_exit, exF_skip, runL, wantL, stepL, evL, evC, LEnv.at, putL, loadFine, loadL, cellsAt, Trk.putNew, Trk.up, Trk.touch, Trk.gives, Trk.calm, Trk.hit, opdsOf, Trk.fresh, LEnv.keep, LEnv.ofFrom, List.map_cons, List.map_nil, nbeq, nble, nblt, ofAV, ofAVs, lenL, bin_add, bin_sub, bin_mul, bin_eql, bin_neq, bin_lss, bin_leq, bin_gtr, bin_geq, natL_nat, natL_zero, natL_one, natL_two, Nat.zero_mul, List.any_cons, List.any_nil, Bool.or_false, Bool.false_or, Bool.true_or, Bool.or_true, Bool.and_true, Bool.true_and, Bool.and_false, Bool.false_and, Bool.not_true, Bool.not_false, Nat.reduceBEq, Nat.reduceEqDiff, decide_true, decide_false, cond_true, cond_false, List.filter_nil, List.filter_cons, Nat.reduceAdd, Nat.reduceLeDiff, reduceCtorEq, List.length_nil, List.length_cons, Nat.mul_one, if_true, if_false, Bool.false_eq_true, eq_self, and_true, true_and, retL, resultsL, resAllL, resOfL, List.append_nil, List.nil_append, List.cons_append, true_or, or_true, false_or, or_false, false_and, and_false, not_true_eq_false, not_false_eq_true, ne_eq, unL, trim_nil, views_pures, LV.pures, LV.pure, freeze, Nat.reduceDiv, Int.reduceEq, Int.reduceLT, Int.reduceLE, Int.natCast_zero, LV.cells, allocL, List.getElem?_cons_zero, List.getElem?_cons_succ, storeL, spliceL, List.take_zero, List.take_succ_cons, List.drop_zero, List.drop_succ_cons, List.drop_nil, List.take_nil, Nat.le_refl, Nat.reduceMul, List.set_cons_zero, List.set_cons_succ, LV.scalar, List.all_cons, List.all_nil, Nat.lt_add_one, Nat.zero_lt_one, Nat.reduceLT, Nat.lt_irrefl, fillL, List.length_append, foldIntL, kind_beq, pures_int, solids_int, plains_int, unders_int, scalars_int, show ¬ ((k : Int) < (o.length : Int)) by omega]
  | succ d ih =>
    intro k mc hk
    have h2 : k < o.length := by omega
    have h3 : k < rs[i].l.length := by omega
    have hws := wrap_succ (show k + 1 < 9223372036854775808 by omega)
    have hWl : (WR (vals rs) o).length = rs.length := by rw [WR_len, vals_length]
    have w1 := wr_row o hi
    have w2 := wr_int o hi hj
    have w3 := wr_int o hi hi
    have wl := wrow_len (vals rs) o i rs.length
    have b1 := ws_bound (j : Int) rs[i].l o 0 (D.ok i hi) (by omega)
    have hv := (D.ok i hi).at k h3
    have hsub : IntKind.i64.wrap (ws (j : Int) rs[i].l o 0 - rs[i].l[k]) = ws (j : Int) rs[i].l o 0 - rs[i].l[k] := wrap_in (by omega)
    rw [law07_envies.L0_eq, List.drop_eq_getElem_cons h2, List.drop_eq_getElem_cons h3, mchF]
    have ih1 := ih (k + 1) false (by omega)
    have ih2 := ih (k + 1) mc (by omega)
    generalize ws (j : Int) rs[i].l o 0 = a at *
    generalize ws (i : Int) rs[i].l o 0 = b at *
    by_cases c1 : o[k] = (j : Int)
    · by_cases c2 : a - rs[i].l[k] ≤ b
      · rw [if_pos ⟨c1, c2⟩]
        simp (maxSteps := 1000000) only [law07_envies.B0, beqT, beqF, exF_seq, exF_region, exF_block, exF_cond, exF_ret, exF_exit, exF_skip, runL, wantL, stepL, evL, evC, LEnv.at, putL, loadFine, loadL, cellsAt, Trk.putNew, Trk.up, Trk.touch, Trk.gives, Trk.calm, Trk.hit, opdsOf, Trk.fresh, LEnv.keep, LEnv.ofFrom, List.map_cons, List.map_nil, nbeq, nble, nblt, ofAV, ofAVs, lenL, bin_add, bin_sub, bin_mul, bin_eql, bin_neq, bin_lss, bin_leq, bin_gtr, bin_geq, natL_nat, natL_zero, natL_one, natL_two, Nat.zero_mul, List.any_cons, List.any_nil, Bool.or_false, Bool.false_or, Bool.true_or, Bool.or_true, Bool.and_true, Bool.true_and, Bool.and_false, Bool.false_and, Bool.not_true, Bool.not_false, Nat.reduceBEq, Nat.reduceEqDiff, decide_true, decide_false, cond_true, cond_false, List.filter_nil, List.filter_cons, Nat.reduceAdd, Nat.reduceLeDiff, reduceCtorEq, List.length_nil, List.length_cons, Nat.mul_one, if_true, if_false, Bool.false_eq_true, eq_self, and_true, true_and, retL, resultsL, resAllL, resOfL, List.append_nil, List.nil_append, List.cons_append, true_or, or_true, false_or, or_false, false_and, and_false, not_true_eq_false, not_false_eq_true, ne_eq, unL, trim_nil, views_pures, LV.pures, LV.pure, freeze, Nat.reduceDiv, Int.reduceEq, Int.reduceLT, Int.reduceLE, Int.natCast_zero, LV.cells, allocL, List.getElem?_cons_zero, List.getElem?_cons_succ, storeL, spliceL, List.take_zero, List.take_succ_cons, List.drop_zero, List.drop_succ_cons, List.drop_nil, List.take_nil, Nat.le_refl, Nat.reduceMul, List.set_cons_zero, List.set_cons_succ, LV.scalar, List.all_cons, List.all_nil, Nat.lt_add_one, Nat.zero_lt_one, Nat.reduceLT, Nat.lt_irrefl, fillL, List.length_append, foldIntL, kind_beq, pures_int, solids_int, plains_int, unders_int, scalars_int, show ((k : Int) < (o.length : Int)) by omega, h2, int_at _ _ _ h2, c1, hWl, hi, hj, w1, w2, w3, wl, row_at _ _ hi, h3, int_at _ _ _ h3, hsub, c2, hws, ih1]
      · rw [if_neg (fun q => c2 q.2)]
        simp (maxSteps := 1000000) only [law07_envies.B0, beqT, beqF, exF_seq, exF_region, exF_block, exF_cond, exF_ret, exF_exit, exF_skip, runL, wantL, stepL, evL, evC, LEnv.at, putL, loadFine, loadL, cellsAt, Trk.putNew, Trk.up, Trk.touch, Trk.gives, Trk.calm, Trk.hit, opdsOf, Trk.fresh, LEnv.keep, LEnv.ofFrom, List.map_cons, List.map_nil, nbeq, nble, nblt, ofAV, ofAVs, lenL, bin_add, bin_sub, bin_mul, bin_eql, bin_neq, bin_lss, bin_leq, bin_gtr, bin_geq, natL_nat, natL_zero, natL_one, natL_two, Nat.zero_mul, List.any_cons, List.any_nil, Bool.or_false, Bool.false_or, Bool.true_or, Bool.or_true, Bool.and_true, Bool.true_and, Bool.and_false, Bool.false_and, Bool.not_true, Bool.not_false, Nat.reduceBEq, Nat.reduceEqDiff, decide_true, decide_false, cond_true, cond_false, List.filter_nil, List.filter_cons, Nat.reduceAdd, Nat.reduceLeDiff, reduceCtorEq, List.length_nil, List.length_cons, Nat.mul_one, if_true, if_false, Bool.false_eq_true, eq_self, and_true, true_and, retL, resultsL, resAllL, resOfL, List.append_nil, List.nil_append, List.cons_append, true_or, or_true, false_or, or_false, false_and, and_false, not_true_eq_false, not_false_eq_true, ne_eq, unL, trim_nil, views_pures, LV.pures, LV.pure, freeze, Nat.reduceDiv, Int.reduceEq, Int.reduceLT, Int.reduceLE, Int.natCast_zero, LV.cells, allocL, List.getElem?_cons_zero, List.getElem?_cons_succ, storeL, spliceL, List.take_zero, List.take_succ_cons, List.drop_zero, List.drop_succ_cons, List.drop_nil, List.take_nil, Nat.le_refl, Nat.reduceMul, List.set_cons_zero, List.set_cons_succ, LV.scalar, List.all_cons, List.all_nil, Nat.lt_add_one, Nat.zero_lt_one, Nat.reduceLT, Nat.lt_irrefl, fillL, List.length_append, foldIntL, kind_beq, pures_int, solids_int, plains_int, unders_int, scalars_int, show ((k : Int) < (o.length : Int)) by omega, h2, int_at _ _ _ h2, c1, hWl, hi, hj, w1, w2, w3, wl, row_at _ _ hi, h3, int_at _ _ _ h3, hsub, c2, hws, ih2]
    · rw [if_neg (fun q => c1 q.1)]
      simp (maxSteps := 1000000) only [law07_envies.B0, beqT, beqF, exF_seq, exF_region, exF_block, exF_cond, exF_ret, exF_exit, exF_skip, runL, wantL, stepL, evL, evC, LEnv.at, putL, loadFine, loadL, cellsAt, Trk.putNew, Trk.up, Trk.touch, Trk.gives, Trk.calm, Trk.hit, opdsOf, Trk.fresh, LEnv.keep, LEnv.ofFrom, List.map_cons, List.map_nil, nbeq, nble, nblt, ofAV, ofAVs, lenL, bin_add, bin_sub, bin_mul, bin_eql, bin_neq, bin_lss, bin_leq, bin_gtr, bin_geq, natL_nat, natL_zero, natL_one, natL_two, Nat.zero_mul, List.any_cons, List.any_nil, Bool.or_false, Bool.false_or, Bool.true_or, Bool.or_true, Bool.and_true, Bool.true_and, Bool.and_false, Bool.false_and, Bool.not_true, Bool.not_false, Nat.reduceBEq, Nat.reduceEqDiff, decide_true, decide_false, cond_true, cond_false, List.filter_nil, List.filter_cons, Nat.reduceAdd, Nat.reduceLeDiff, reduceCtorEq, List.length_nil, List.length_cons, Nat.mul_one, if_true, if_false, Bool.false_eq_true, eq_self, and_true, true_and, retL, resultsL, resAllL, resOfL, List.append_nil, List.nil_append, List.cons_append, true_or, or_true, false_or, or_false, false_and, and_false, not_true_eq_false, not_false_eq_true, ne_eq, unL, trim_nil, views_pures, LV.pures, LV.pure, freeze, Nat.reduceDiv, Int.reduceEq, Int.reduceLT, Int.reduceLE, Int.natCast_zero, LV.cells, allocL, List.getElem?_cons_zero, List.getElem?_cons_succ, storeL, spliceL, List.take_zero, List.take_succ_cons, List.drop_zero, List.drop_succ_cons, List.drop_nil, List.take_nil, Nat.le_refl, Nat.reduceMul, List.set_cons_zero, List.set_cons_succ, LV.scalar, List.all_cons, List.all_nil, Nat.lt_add_one, Nat.zero_lt_one, Nat.reduceLT, Nat.lt_irrefl, fillL, List.length_append, foldIntL, kind_beq, pures_int, solids_int, plains_int, unders_int, scalars_int, show ((k : Int) < (o.length : Int)) by omega, h2, int_at _ _ _ h2, c1, hws, ih2]
/-- Whether there is envy, and much of it. -/
theorem lenvies_c (nl ex nl' ex' : Bool) (sz sz' : Nat) {rs : List Row} {o : List Int} (D : LOk rs o) {i j : Nat} (hi : i < rs.length) (hj : j < rs.length) (m : LMem) :
    clF LP n_law07_envies [VL nl ex sz rs, IL nl' ex' sz' o, .int .i64 (i : Int), .int .i64 (j : Int)] m = some (.P, .tup [.bool (decide (0 < eW (vals rs) o i j)), .bool (decide (0 < eX (vals rs) o i j))], m) := by
  refine call_P lp_law07_envies rfl (by simp [LV.pures, LV.pure]) (m1 := []) ?_ rfl m
  have hw := fun m => worths_c nl ex nl' ex' sz sz' D m
  have hWl : (WR (vals rs) o).length = rs.length := by rw [WR_len, vals_length]
  have w1 := wr_row o hi
  have w2 := wr_int o hi hj
  have w3 := wr_int o hi hi
  have wl := wrow_len (vals rs) o i rs.length
  have hl := envies_loop nl ex nl' ex' sz sz' D hi hj (decide (0 < eW (vals rs) o i j)) o.length 0 (decide (0 < eW (vals rs) o i j)) (by omega)
  rw [List.drop_zero, List.drop_zero, much_eX D hi j, Int.natCast_zero] at hl
  have he : decide (ws (i : Int) rs[i].l o 0 < ws (j : Int) rs[i].l o 0) = decide (0 < eW (vals rs) o i j) := by
    unfold eW
    rw [vals_at rs i hi, decide_eq_decide]
    omega
  generalize decide (0 < eX (vals rs) o i j) = X at *
  generalize ws (j : Int) rs[i].l o 0 = a at *
  generalize ws (i : Int) rs[i].l o 0 = b at *
  by_cases c : b < a
  · simp only [c, decide_true] at he
    rw [← he] at hl ⊢
    simp (maxSteps := 1000000) only [law07_envies, law07_envies.B, beqT, beqF, exF_seq, exF_region, exF_block, exF_cond, exF_ret, exF_exit, exF_skip, runL, wantL, stepL, evL, evC, LEnv.at, putL, loadFine, loadL, cellsAt, Trk.putNew, Trk.up, Trk.touch, Trk.gives, Trk.calm, Trk.hit, opdsOf, Trk.fresh, LEnv.keep, LEnv.ofFrom, List.map_cons, List.map_nil, nbeq, nble, nblt, ofAV, ofAVs, lenL, bin_add, bin_sub, bin_mul, bin_eql, bin_neq, bin_lss, bin_leq, bin_gtr, bin_geq, natL_nat, natL_zero, natL_one, natL_two, Nat.zero_mul, List.any_cons, List.any_nil, Bool.or_false, Bool.false_or, Bool.true_or, Bool.or_true, Bool.and_true, Bool.true_and, Bool.and_false, Bool.false_and, Bool.not_true, Bool.not_false, Nat.reduceBEq, Nat.reduceEqDiff, decide_true, decide_false, cond_true, cond_false, List.filter_nil, List.filter_cons, Nat.reduceAdd, Nat.reduceLeDiff, reduceCtorEq, List.length_nil, List.length_cons, Nat.mul_one, if_true, if_false, Bool.false_eq_true, eq_self, and_true, true_and, retL, resultsL, resAllL, resOfL, List.append_nil, List.nil_append, List.cons_append, true_or, or_true, false_or, or_false, false_and, and_false, not_true_eq_false, not_false_eq_true, ne_eq, unL, trim_nil, views_pures, LV.pures, LV.pure, freeze, Nat.reduceDiv, Int.reduceEq, Int.reduceLT, Int.reduceLE, Int.natCast_zero, LV.cells, allocL, List.getElem?_cons_zero, List.getElem?_cons_succ, storeL, spliceL, List.take_zero, List.take_succ_cons, List.drop_zero, List.drop_succ_cons, List.drop_nil, List.take_nil, Nat.le_refl, Nat.reduceMul, List.set_cons_zero, List.set_cons_succ, LV.scalar, List.all_cons, List.all_nil, Nat.lt_add_one, Nat.zero_lt_one, Nat.reduceLT, Nat.lt_irrefl, fillL, List.length_append, foldIntL, kind_beq, pures_int, solids_int, plains_int, unders_int, scalars_int, hw, hWl, hi, hj, w1, w2, w3, wl, c, hl]
  · simp only [c, decide_false] at he
    rw [← he] at hl ⊢
    simp (maxSteps := 1000000) only [law07_envies, law07_envies.B, beqT, beqF, exF_seq, exF_region, exF_block, exF_cond, exF_ret, exF_exit, exF_skip, runL, wantL, stepL, evL, evC, LEnv.at, putL, loadFine, loadL, cellsAt, Trk.putNew, Trk.up, Trk.touch, Trk.gives, Trk.calm, Trk.hit, opdsOf, Trk.fresh, LEnv.keep, LEnv.ofFrom, List.map_cons, List.map_nil, nbeq, nble, nblt, ofAV, ofAVs, lenL, bin_add, bin_sub, bin_mul, bin_eql, bin_neq, bin_lss, bin_leq, bin_gtr, bin_geq, natL_nat, natL_zero, natL_one, natL_two, Nat.zero_mul, List.any_cons, List.any_nil, Bool.or_false, Bool.false_or, Bool.true_or, Bool.or_true, Bool.and_true, Bool.true_and, Bool.and_false, Bool.false_and, Bool.not_true, Bool.not_false, Nat.reduceBEq, Nat.reduceEqDiff, decide_true, decide_false, cond_true, cond_false, List.filter_nil, List.filter_cons, Nat.reduceAdd, Nat.reduceLeDiff, reduceCtorEq, List.length_nil, List.length_cons, Nat.mul_one, if_true, if_false, Bool.false_eq_true, eq_self, and_true, true_and, retL, resultsL, resAllL, resOfL, List.append_nil, List.nil_append, List.cons_append, true_or, or_true, false_or, or_false, false_and, and_false, not_true_eq_false, not_false_eq_true, ne_eq, unL, trim_nil, views_pures, LV.pures, LV.pure, freeze, Nat.reduceDiv, Int.reduceEq, Int.reduceLT, Int.reduceLE, Int.natCast_zero, LV.cells, allocL, List.getElem?_cons_zero, List.getElem?_cons_succ, storeL, spliceL, List.take_zero, List.take_succ_cons, List.drop_zero, List.drop_succ_cons, List.drop_nil, List.take_nil, Nat.le_refl, Nat.reduceMul, List.set_cons_zero, List.set_cons_succ, LV.scalar, List.all_cons, List.all_nil, Nat.lt_add_one, Nat.zero_lt_one, Nat.reduceLT, Nat.lt_irrefl, fillL, List.length_append, foldIntL, kind_beq, pures_int, solids_int, plains_int, unders_int, scalars_int, hw, hWl, hi, hj, w1, w2, w3, wl, c, hl]

/-! ### How fair -/
def stF (X W : List (Nat × Nat)) : Int := if X ≠ [] then 0 else if W ≠ [] then 1 else 2
abbrev stM (X : List (Nat × Nat)) : LMem := [⟨[.int .i64 ((X.headD (0, 0)).1 : Int), .int .i64 ((X.headD (0, 0)).2 : Int)], true⟩]
theorem judged_inner (nl ex nl' ex' : Bool) (sz sz' : Nat) {rs : List Row} {o : List Int} (D : LOk rs o) {i : Nat} (hi : i < rs.length) (d : Nat) : ∀ (k : Nat) (X W : List (Nat × Nat)), k + d = rs.length → (W = [] → X = []) →
    exF LP law07_judged.L0 [(0, VL nl ex sz rs), (1, IL nl' ex' sz' o), (4, .int .i64 (stF X W)), (5, .ptr 0 0 2), (6, .int .i64 (i : Int)), (11, .int .i64 (rs.length : Int)), (12, .int .i64 (i : Int)), (16, .int .i64 (rs.length : Int)), (17, .int .i64 (k : Int))] (stM X) =
      some (.exit 2, [(0, VL nl ex sz rs), (1, IL nl' ex' sz' o), (4, .int .i64 (stF (X ++ inner (fun i j => decide (0 < eX (vals rs) o i j)) i k d) (W ++ inner (fun i j => decide (0 < eW (vals rs) o i j)) i k d))), (5, .ptr 0 0 2), (11, .int .i64 (rs.length : Int)), (12, .int .i64 (i : Int))], stM (X ++ inner (fun i j => decide (0 < eX (vals rs) o i j)) i k d)) := by
  have h4 := D.le4
  induction d with
  | zero =>
    intro k X W hk _
    rw [law07_judged.L0_eq]
    simp only [law07_judged.B0, beqT, beqF, exF_seq, exF_region, exF_block, exF_cond, exF_ret, exF_exit, exF_skip, runL, wantL, stepL, evL, evC, LEnv.at, putL, loadFine, loadL, cellsAt, Trk.putNew, Trk.up, Trk.touch, Trk.gives, Trk.calm, Trk.hit, opdsOf, Trk.fresh, LEnv.keep, LEnv.ofFrom, List.map_cons, List.map_nil, nbeq, nble, nblt, ofAV, ofAVs, lenL, bin_add, bin_sub, bin_mul, bin_eql, bin_neq, bin_lss, bin_leq, bin_gtr, bin_geq, natL_nat, natL_zero, natL_one, natL_two, Nat.zero_mul, List.any_cons, List.any_nil, Bool.or_false, Bool.false_or, Bool.true_or, Bool.or_true, Bool.and_true, Bool.true_and, Bool.and_false, Bool.false_and, Bool.not_true, Bool.not_false, Nat.reduceBEq, Nat.reduceEqDiff, decide_true, decide_false, cond_true, cond_false, List.filter_nil, List.filter_cons, Nat.reduceAdd, Nat.reduceLeDiff, reduceCtorEq, List.length_nil, List.length_cons, Nat.mul_one, if_true, if_false, Bool.false_eq_true, eq_self, and_true, true_and, retL, resultsL, resAllL, resOfL, List.append_nil, List.nil_append, List.cons_append, true_or, or_true, false_or, or_false, false_and, and_false, not_true_eq_false, not_false_eq_true, ne_eq, unL, trim_nil, views_pures, LV.pures, LV.pure, freeze, Nat.reduceDiv, Int.reduceEq, Int.reduceLT, Int.reduceLE, Int.natCast_zero, LV.cells, allocL, List.getElem?_cons_zero, List.getElem?_cons_succ, storeL, spliceL, List.take_zero, List.take_succ_cons, List.drop_zero, List.drop_succ_cons, List.drop_nil, List.take_nil, Nat.le_refl, Nat.reduceMul, List.set_cons_zero, List.set_cons_succ, LV.scalar, List.all_cons, List.all_nil, Nat.lt_add_one, Nat.zero_lt_one, Nat.reduceLT, Nat.lt_irrefl, fillL, List.length_append, foldIntL, kind_beq, pures_int, solids_int, plains_int, unders_int, scalars_int, show ¬ ((k : Int) < (rs.length : Int)) by omega, inner, List.range'_zero]
  | succ d ih =>
    intro k X W hk hXW
    have hkr : k < rs.length := by omega
    have hws := wrap_succ (show k + 1 < 9223372036854775808 by omega)
    have he := fun m => lenvies_c nl ex nl' ex' sz sz' D hi hkr m
    have hXe : decide (0 < eX (vals rs) o i k) = true → decide (0 < eW (vals rs) o i k) = true := fun h => by
      simp only [decide_eq_true_eq] at h ⊢
      exact eX_eW _ _ _ _ (by rw [vals_at rs i hi]; exact D.ok i hi) h
    rw [law07_judged.L0_eq, inner_succ, inner_succ, ← List.append_assoc, ← List.append_assoc]
    have ih := fun X' W' h => ih (k + 1) X' W' (by omega) h
    have m21 : min (2 : Int) 1 = 1 := rfl
    have m11 : min (1 : Int) 1 = 1 := rfl
    have m01 : min (0 : Int) 1 = 0 := rfl
    cases hE : decide (0 < eW (vals rs) o i k) <;> cases hX : decide (0 < eX (vals rs) o i k)
    · rw [hE, hX] at he
      simp only [Bool.false_eq_true, if_false, List.append_nil]
      have ih := ih X W hXW
      rw [← ih]
      generalize stF X W = f at *
      generalize stM X = M at *
      simp only [law07_judged.B0, beqT, beqF, exF_seq, exF_region, exF_block, exF_cond, exF_ret, exF_exit, exF_skip, runL, wantL, stepL, evL, evC, LEnv.at, putL, loadFine, loadL, cellsAt, Trk.putNew, Trk.up, Trk.touch, Trk.gives, Trk.calm, Trk.hit, opdsOf, Trk.fresh, LEnv.keep, LEnv.ofFrom, List.map_cons, List.map_nil, nbeq, nble, nblt, ofAV, ofAVs, lenL, bin_add, bin_sub, bin_mul, bin_eql, bin_neq, bin_lss, bin_leq, bin_gtr, bin_geq, natL_nat, natL_zero, natL_one, natL_two, Nat.zero_mul, List.any_cons, List.any_nil, Bool.or_false, Bool.false_or, Bool.true_or, Bool.or_true, Bool.and_true, Bool.true_and, Bool.and_false, Bool.false_and, Bool.not_true, Bool.not_false, Nat.reduceBEq, Nat.reduceEqDiff, decide_true, decide_false, cond_true, cond_false, List.filter_nil, List.filter_cons, Nat.reduceAdd, Nat.reduceLeDiff, reduceCtorEq, List.length_nil, List.length_cons, Nat.mul_one, if_true, if_false, Bool.false_eq_true, eq_self, and_true, true_and, retL, resultsL, resAllL, resOfL, List.append_nil, List.nil_append, List.cons_append, true_or, or_true, false_or, or_false, false_and, and_false, not_true_eq_false, not_false_eq_true, ne_eq, unL, trim_nil, views_pures, LV.pures, LV.pure, freeze, Nat.reduceDiv, Int.reduceEq, Int.reduceLT, Int.reduceLE, Int.natCast_zero, LV.cells, allocL, List.getElem?_cons_zero, List.getElem?_cons_succ, storeL, spliceL, List.take_zero, List.take_succ_cons, List.drop_zero, List.drop_succ_cons, List.drop_nil, List.take_nil, Nat.le_refl, Nat.reduceMul, List.set_cons_zero, List.set_cons_succ, LV.scalar, List.all_cons, List.all_nil, Nat.lt_add_one, Nat.zero_lt_one, Nat.reduceLT, Nat.lt_irrefl, fillL, List.length_append, foldIntL, kind_beq, pures_int, solids_int, plains_int, unders_int, scalars_int, show ((k : Int) < (rs.length : Int)) by omega, he, hws]
    · rw [hE, hX] at hXe; cases hXe rfl
    · rw [hE, hX] at he
      simp only [Bool.false_eq_true, if_false, if_true, List.append_nil]
      have ih := ih X (W ++ [(i, k)]) (fun h => by simp at h)
      rw [← ih]
      cases X with
      | nil =>
        have e1 : stF [] (W ++ [(i, k)]) = 1 := by simp [stF]
        rw [e1]
        cases W with
        | nil =>
          have e2 : stF [] ([] : List (Nat × Nat)) = 2 := rfl
          rw [e2]
          simp only [law07_judged.B0, beqT, beqF, exF_seq, exF_region, exF_block, exF_cond, exF_ret, exF_exit, exF_skip, runL, wantL, stepL, evL, evC, LEnv.at, putL, loadFine, loadL, cellsAt, Trk.putNew, Trk.up, Trk.touch, Trk.gives, Trk.calm, Trk.hit, opdsOf, Trk.fresh, LEnv.keep, LEnv.ofFrom, List.map_cons, List.map_nil, nbeq, nble, nblt, ofAV, ofAVs, lenL, bin_add, bin_sub, bin_mul, bin_eql, bin_neq, bin_lss, bin_leq, bin_gtr, bin_geq, natL_nat, natL_zero, natL_one, natL_two, Nat.zero_mul, List.any_cons, List.any_nil, Bool.or_false, Bool.false_or, Bool.true_or, Bool.or_true, Bool.and_true, Bool.true_and, Bool.and_false, Bool.false_and, Bool.not_true, Bool.not_false, Nat.reduceBEq, Nat.reduceEqDiff, decide_true, decide_false, cond_true, cond_false, List.filter_nil, List.filter_cons, Nat.reduceAdd, Nat.reduceLeDiff, reduceCtorEq, List.length_nil, List.length_cons, Nat.mul_one, if_true, if_false, Bool.false_eq_true, eq_self, and_true, true_and, retL, resultsL, resAllL, resOfL, List.append_nil, List.nil_append, List.cons_append, true_or, or_true, false_or, or_false, false_and, and_false, not_true_eq_false, not_false_eq_true, ne_eq, unL, trim_nil, views_pures, LV.pures, LV.pure, freeze, Nat.reduceDiv, Int.reduceEq, Int.reduceLT, Int.reduceLE, Int.natCast_zero, LV.cells, allocL, List.getElem?_cons_zero, List.getElem?_cons_succ, storeL, spliceL, List.take_zero, List.take_succ_cons, List.drop_zero, List.drop_succ_cons, List.drop_nil, List.take_nil, Nat.le_refl, Nat.reduceMul, List.set_cons_zero, List.set_cons_succ, LV.scalar, List.all_cons, List.all_nil, Nat.lt_add_one, Nat.zero_lt_one, Nat.reduceLT, Nat.lt_irrefl, fillL, List.length_append, foldIntL, kind_beq, pures_int, solids_int, plains_int, unders_int, scalars_int, show ((k : Int) < (rs.length : Int)) by omega, he, hws, m21]
        | cons a r =>
          have e2 : stF [] (a :: r) = 1 := rfl
          rw [e2]
          simp only [law07_judged.B0, beqT, beqF, exF_seq, exF_region, exF_block, exF_cond, exF_ret, exF_exit, exF_skip, runL, wantL, stepL, evL, evC, LEnv.at, putL, loadFine, loadL, cellsAt, Trk.putNew, Trk.up, Trk.touch, Trk.gives, Trk.calm, Trk.hit, opdsOf, Trk.fresh, LEnv.keep, LEnv.ofFrom, List.map_cons, List.map_nil, nbeq, nble, nblt, ofAV, ofAVs, lenL, bin_add, bin_sub, bin_mul, bin_eql, bin_neq, bin_lss, bin_leq, bin_gtr, bin_geq, natL_nat, natL_zero, natL_one, natL_two, Nat.zero_mul, List.any_cons, List.any_nil, Bool.or_false, Bool.false_or, Bool.true_or, Bool.or_true, Bool.and_true, Bool.true_and, Bool.and_false, Bool.false_and, Bool.not_true, Bool.not_false, Nat.reduceBEq, Nat.reduceEqDiff, decide_true, decide_false, cond_true, cond_false, List.filter_nil, List.filter_cons, Nat.reduceAdd, Nat.reduceLeDiff, reduceCtorEq, List.length_nil, List.length_cons, Nat.mul_one, if_true, if_false, Bool.false_eq_true, eq_self, and_true, true_and, retL, resultsL, resAllL, resOfL, List.append_nil, List.nil_append, List.cons_append, true_or, or_true, false_or, or_false, false_and, and_false, not_true_eq_false, not_false_eq_true, ne_eq, unL, trim_nil, views_pures, LV.pures, LV.pure, freeze, Nat.reduceDiv, Int.reduceEq, Int.reduceLT, Int.reduceLE, Int.natCast_zero, LV.cells, allocL, List.getElem?_cons_zero, List.getElem?_cons_succ, storeL, spliceL, List.take_zero, List.take_succ_cons, List.drop_zero, List.drop_succ_cons, List.drop_nil, List.take_nil, Nat.le_refl, Nat.reduceMul, List.set_cons_zero, List.set_cons_succ, LV.scalar, List.all_cons, List.all_nil, Nat.lt_add_one, Nat.zero_lt_one, Nat.reduceLT, Nat.lt_irrefl, fillL, List.length_append, foldIntL, kind_beq, pures_int, solids_int, plains_int, unders_int, scalars_int, show ((k : Int) < (rs.length : Int)) by omega, he, hws, m11]
      | cons p X =>
        have e1 : ∀ W, stF (p :: X) W = 0 := fun _ => rfl
        rw [e1, e1]
        generalize stM (p :: X) = M at *
        simp only [law07_judged.B0, beqT, beqF, exF_seq, exF_region, exF_block, exF_cond, exF_ret, exF_exit, exF_skip, runL, wantL, stepL, evL, evC, LEnv.at, putL, loadFine, loadL, cellsAt, Trk.putNew, Trk.up, Trk.touch, Trk.gives, Trk.calm, Trk.hit, opdsOf, Trk.fresh, LEnv.keep, LEnv.ofFrom, List.map_cons, List.map_nil, nbeq, nble, nblt, ofAV, ofAVs, lenL, bin_add, bin_sub, bin_mul, bin_eql, bin_neq, bin_lss, bin_leq, bin_gtr, bin_geq, natL_nat, natL_zero, natL_one, natL_two, Nat.zero_mul, List.any_cons, List.any_nil, Bool.or_false, Bool.false_or, Bool.true_or, Bool.or_true, Bool.and_true, Bool.true_and, Bool.and_false, Bool.false_and, Bool.not_true, Bool.not_false, Nat.reduceBEq, Nat.reduceEqDiff, decide_true, decide_false, cond_true, cond_false, List.filter_nil, List.filter_cons, Nat.reduceAdd, Nat.reduceLeDiff, reduceCtorEq, List.length_nil, List.length_cons, Nat.mul_one, if_true, if_false, Bool.false_eq_true, eq_self, and_true, true_and, retL, resultsL, resAllL, resOfL, List.append_nil, List.nil_append, List.cons_append, true_or, or_true, false_or, or_false, false_and, and_false, not_true_eq_false, not_false_eq_true, ne_eq, unL, trim_nil, views_pures, LV.pures, LV.pure, freeze, Nat.reduceDiv, Int.reduceEq, Int.reduceLT, Int.reduceLE, Int.natCast_zero, LV.cells, allocL, List.getElem?_cons_zero, List.getElem?_cons_succ, storeL, spliceL, List.take_zero, List.take_succ_cons, List.drop_zero, List.drop_succ_cons, List.drop_nil, List.take_nil, Nat.le_refl, Nat.reduceMul, List.set_cons_zero, List.set_cons_succ, LV.scalar, List.all_cons, List.all_nil, Nat.lt_add_one, Nat.zero_lt_one, Nat.reduceLT, Nat.lt_irrefl, fillL, List.length_append, foldIntL, kind_beq, pures_int, solids_int, plains_int, unders_int, scalars_int, show ((k : Int) < (rs.length : Int)) by omega, he, hws, m01]
    · rw [hE, hX] at he
      simp only [if_true]
      have ih := ih (X ++ [(i, k)]) (W ++ [(i, k)]) (fun h => by simp at h)
      rw [← ih]
      cases X with
      | nil =>
        have e1 : stF ([] ++ [(i, k)]) (W ++ [(i, k)]) = 0 := rfl
        rw [e1]
        cases W with
        | nil =>
          have e2 : stF [] ([] : List (Nat × Nat)) = 2 := rfl
          rw [e2]
          simp only [law07_judged.B0, beqT, beqF, exF_seq, exF_region, exF_block, exF_cond, exF_ret, exF_exit, exF_skip, runL, wantL, stepL, evL, evC, LEnv.at, putL, loadFine, loadL, cellsAt, Trk.putNew, Trk.up, Trk.touch, Trk.gives, Trk.calm, Trk.hit, opdsOf, Trk.fresh, LEnv.keep, LEnv.ofFrom, List.map_cons, List.map_nil, nbeq, nble, nblt, ofAV, ofAVs, lenL, bin_add, bin_sub, bin_mul, bin_eql, bin_neq, bin_lss, bin_leq, bin_gtr, bin_geq, natL_nat, natL_zero, natL_one, natL_two, Nat.zero_mul, List.any_cons, List.any_nil, Bool.or_false, Bool.false_or, Bool.true_or, Bool.or_true, Bool.and_true, Bool.true_and, Bool.and_false, Bool.false_and, Bool.not_true, Bool.not_false, Nat.reduceBEq, Nat.reduceEqDiff, decide_true, decide_false, cond_true, cond_false, List.filter_nil, List.filter_cons, Nat.reduceAdd, Nat.reduceLeDiff, reduceCtorEq, List.length_nil, List.length_cons, Nat.mul_one, if_true, if_false, Bool.false_eq_true, eq_self, and_true, true_and, retL, resultsL, resAllL, resOfL, List.append_nil, List.nil_append, List.cons_append, true_or, or_true, false_or, or_false, false_and, and_false, not_true_eq_false, not_false_eq_true, ne_eq, unL, trim_nil, views_pures, LV.pures, LV.pure, freeze, Nat.reduceDiv, Int.reduceEq, Int.reduceLT, Int.reduceLE, Int.natCast_zero, LV.cells, allocL, List.getElem?_cons_zero, List.getElem?_cons_succ, storeL, spliceL, List.take_zero, List.take_succ_cons, List.drop_zero, List.drop_succ_cons, List.drop_nil, List.take_nil, Nat.le_refl, Nat.reduceMul, List.set_cons_zero, List.set_cons_succ, LV.scalar, List.all_cons, List.all_nil, Nat.lt_add_one, Nat.zero_lt_one, Nat.reduceLT, Nat.lt_irrefl, fillL, List.length_append, foldIntL, kind_beq, pures_int, solids_int, plains_int, unders_int, scalars_int, show ((k : Int) < (rs.length : Int)) by omega, he, hws, m21, List.headD_cons, List.headD_nil]
          rfl
        | cons a r =>
          have e2 : stF [] (a :: r) = 1 := rfl
          rw [e2]
          simp only [law07_judged.B0, beqT, beqF, exF_seq, exF_region, exF_block, exF_cond, exF_ret, exF_exit, exF_skip, runL, wantL, stepL, evL, evC, LEnv.at, putL, loadFine, loadL, cellsAt, Trk.putNew, Trk.up, Trk.touch, Trk.gives, Trk.calm, Trk.hit, opdsOf, Trk.fresh, LEnv.keep, LEnv.ofFrom, List.map_cons, List.map_nil, nbeq, nble, nblt, ofAV, ofAVs, lenL, bin_add, bin_sub, bin_mul, bin_eql, bin_neq, bin_lss, bin_leq, bin_gtr, bin_geq, natL_nat, natL_zero, natL_one, natL_two, Nat.zero_mul, List.any_cons, List.any_nil, Bool.or_false, Bool.false_or, Bool.true_or, Bool.or_true, Bool.and_true, Bool.true_and, Bool.and_false, Bool.false_and, Bool.not_true, Bool.not_false, Nat.reduceBEq, Nat.reduceEqDiff, decide_true, decide_false, cond_true, cond_false, List.filter_nil, List.filter_cons, Nat.reduceAdd, Nat.reduceLeDiff, reduceCtorEq, List.length_nil, List.length_cons, Nat.mul_one, if_true, if_false, Bool.false_eq_true, eq_self, and_true, true_and, retL, resultsL, resAllL, resOfL, List.append_nil, List.nil_append, List.cons_append, true_or, or_true, false_or, or_false, false_and, and_false, not_true_eq_false, not_false_eq_true, ne_eq, unL, trim_nil, views_pures, LV.pures, LV.pure, freeze, Nat.reduceDiv, Int.reduceEq, Int.reduceLT, Int.reduceLE, Int.natCast_zero, LV.cells, allocL, List.getElem?_cons_zero, List.getElem?_cons_succ, storeL, spliceL, List.take_zero, List.take_succ_cons, List.drop_zero, List.drop_succ_cons, List.drop_nil, List.take_nil, Nat.le_refl, Nat.reduceMul, List.set_cons_zero, List.set_cons_succ, LV.scalar, List.all_cons, List.all_nil, Nat.lt_add_one, Nat.zero_lt_one, Nat.reduceLT, Nat.lt_irrefl, fillL, List.length_append, foldIntL, kind_beq, pures_int, solids_int, plains_int, unders_int, scalars_int, show ((k : Int) < (rs.length : Int)) by omega, he, hws, m11, List.headD_cons, List.headD_nil]
          rfl
      | cons p X =>
        have e1 : ∀ W, stF (p :: X) W = 0 := fun _ => rfl
        have e2 : ∀ W, stF (p :: X ++ [(i, k)]) W = 0 := fun _ => rfl
        have e3 : stM (p :: X ++ [(i, k)]) = stM (p :: X) := rfl
        rw [e1, e2, e3]
        generalize stM (p :: X) = M at *
        simp only [law07_judged.B0, beqT, beqF, exF_seq, exF_region, exF_block, exF_cond, exF_ret, exF_exit, exF_skip, runL, wantL, stepL, evL, evC, LEnv.at, putL, loadFine, loadL, cellsAt, Trk.putNew, Trk.up, Trk.touch, Trk.gives, Trk.calm, Trk.hit, opdsOf, Trk.fresh, LEnv.keep, LEnv.ofFrom, List.map_cons, List.map_nil, nbeq, nble, nblt, ofAV, ofAVs, lenL, bin_add, bin_sub, bin_mul, bin_eql, bin_neq, bin_lss, bin_leq, bin_gtr, bin_geq, natL_nat, natL_zero, natL_one, natL_two, Nat.zero_mul, List.any_cons, List.any_nil, Bool.or_false, Bool.false_or, Bool.true_or, Bool.or_true, Bool.and_true, Bool.true_and, Bool.and_false, Bool.false_and, Bool.not_true, Bool.not_false, Nat.reduceBEq, Nat.reduceEqDiff, decide_true, decide_false, cond_true, cond_false, List.filter_nil, List.filter_cons, Nat.reduceAdd, Nat.reduceLeDiff, reduceCtorEq, List.length_nil, List.length_cons, Nat.mul_one, if_true, if_false, Bool.false_eq_true, eq_self, and_true, true_and, retL, resultsL, resAllL, resOfL, List.append_nil, List.nil_append, List.cons_append, true_or, or_true, false_or, or_false, false_and, and_false, not_true_eq_false, not_false_eq_true, ne_eq, unL, trim_nil, views_pures, LV.pures, LV.pure, freeze, Nat.reduceDiv, Int.reduceEq, Int.reduceLT, Int.reduceLE, Int.natCast_zero, LV.cells, allocL, List.getElem?_cons_zero, List.getElem?_cons_succ, storeL, spliceL, List.take_zero, List.take_succ_cons, List.drop_zero, List.drop_succ_cons, List.drop_nil, List.take_nil, Nat.le_refl, Nat.reduceMul, List.set_cons_zero, List.set_cons_succ, LV.scalar, List.all_cons, List.all_nil, Nat.lt_add_one, Nat.zero_lt_one, Nat.reduceLT, Nat.lt_irrefl, fillL, List.length_append, foldIntL, kind_beq, pures_int, solids_int, plains_int, unders_int, scalars_int, show ((k : Int) < (rs.length : Int)) by omega, he, hws, m01]
theorem judged_outer (nl ex nl' ex' : Bool) (sz sz' : Nat) {rs : List Row} {o : List Int} (D : LOk rs o) (d : Nat) : ∀ (k : Nat) (X W : List (Nat × Nat)), k + d = rs.length → (W = [] → X = []) →
    exF LP law07_judged.L1 [(0, VL nl ex sz rs), (1, IL nl' ex' sz' o), (4, .int .i64 (stF X W)), (5, .ptr 0 0 2), (11, .int .i64 (rs.length : Int)), (12, .int .i64 (k : Int))] (stM X) =
      some (.exit 0, [(4, .int .i64 (stF (X ++ outer (fun i j => decide (0 < eX (vals rs) o i j)) rs.length k d) (W ++ outer (fun i j => decide (0 < eW (vals rs) o i j)) rs.length k d))), (5, .ptr 0 0 2)], stM (X ++ outer (fun i j => decide (0 < eX (vals rs) o i j)) rs.length k d)) := by
  have h4 := D.le4
  induction d with
  | zero =>
    intro k X W hk _
    rw [law07_judged.L1_eq]
    simp only [law07_judged.B1, beqT, beqF, exF_seq, exF_region, exF_block, exF_cond, exF_ret, exF_exit, exF_skip, runL, wantL, stepL, evL, evC, LEnv.at, putL, loadFine, loadL, cellsAt, Trk.putNew, Trk.up, Trk.touch, Trk.gives, Trk.calm, Trk.hit, opdsOf, Trk.fresh, LEnv.keep, LEnv.ofFrom, List.map_cons, List.map_nil, nbeq, nble, nblt, ofAV, ofAVs, lenL, bin_add, bin_sub, bin_mul, bin_eql, bin_neq, bin_lss, bin_leq, bin_gtr, bin_geq, natL_nat, natL_zero, natL_one, natL_two, Nat.zero_mul, List.any_cons, List.any_nil, Bool.or_false, Bool.false_or, Bool.true_or, Bool.or_true, Bool.and_true, Bool.true_and, Bool.and_false, Bool.false_and, Bool.not_true, Bool.not_false, Nat.reduceBEq, Nat.reduceEqDiff, decide_true, decide_false, cond_true, cond_false, List.filter_nil, List.filter_cons, Nat.reduceAdd, Nat.reduceLeDiff, reduceCtorEq, List.length_nil, List.length_cons, Nat.mul_one, if_true, if_false, Bool.false_eq_true, eq_self, and_true, true_and, retL, resultsL, resAllL, resOfL, List.append_nil, List.nil_append, List.cons_append, true_or, or_true, false_or, or_false, false_and, and_false, not_true_eq_false, not_false_eq_true, ne_eq, unL, trim_nil, views_pures, LV.pures, LV.pure, freeze, Nat.reduceDiv, Int.reduceEq, Int.reduceLT, Int.reduceLE, Int.natCast_zero, LV.cells, allocL, List.getElem?_cons_zero, List.getElem?_cons_succ, storeL, spliceL, List.take_zero, List.take_succ_cons, List.drop_zero, List.drop_succ_cons, List.drop_nil, List.take_nil, Nat.le_refl, Nat.reduceMul, List.set_cons_zero, List.set_cons_succ, LV.scalar, List.all_cons, List.all_nil, Nat.lt_add_one, Nat.zero_lt_one, Nat.reduceLT, Nat.lt_irrefl, fillL, List.length_append, foldIntL, kind_beq, pures_int, solids_int, plains_int, unders_int, scalars_int, show ¬ ((k : Int) < (rs.length : Int)) by omega, outer, List.range'_zero, List.flatMap_nil]
  | succ d ih =>
    intro k X W hk hXW
    have hkr : k < rs.length := by omega
    have hws := wrap_succ (show k + 1 < 9223372036854775808 by omega)
    have hin := judged_inner nl ex nl' ex' sz sz' D hkr rs.length 0 X W (by omega) hXW
    rw [law07_judged.L1_eq, outer_succ, outer_succ, ← List.append_assoc, ← List.append_assoc]
    have hsub : inner (fun i j => decide (0 < eW (vals rs) o i j)) k 0 rs.length = [] → inner (fun i j => decide (0 < eX (vals rs) o i j)) k 0 rs.length = [] := fun h => by
      unfold inner at *
      rw [List.map_eq_nil_iff, List.filter_eq_nil_iff] at h ⊢
      intro j hj
      have := h j hj
      simp only [decide_eq_true_eq] at this ⊢
      exact fun c => this (eX_eW _ _ _ _ (by rw [vals_at rs k hkr]; exact D.ok k hkr) c)
    have ih := ih (k + 1) (X ++ inner (fun i j => decide (0 < eX (vals rs) o i j)) k 0 rs.length) (W ++ inner (fun i j => decide (0 < eW (vals rs) o i j)) k 0 rs.length) (by omega) (fun h => by
      rw [List.append_eq_nil_iff] at h ⊢
      exact ⟨hXW h.1, hsub h.2⟩)
    simp only [Int.natCast_zero] at hin
    rw [← ih]
    generalize stF X W = f at *
    generalize stM X = M at *
    simp only [law07_judged.B1, beqT, beqF, exF_seq, exF_region, exF_block, exF_cond, exF_ret, exF_exit, exF_skip, runL, wantL, stepL, evL, evC, LEnv.at, putL, loadFine, loadL, cellsAt, Trk.putNew, Trk.up, Trk.touch, Trk.gives, Trk.calm, Trk.hit, opdsOf, Trk.fresh, LEnv.keep, LEnv.ofFrom, List.map_cons, List.map_nil, nbeq, nble, nblt, ofAV, ofAVs, lenL, bin_add, bin_sub, bin_mul, bin_eql, bin_neq, bin_lss, bin_leq, bin_gtr, bin_geq, natL_nat, natL_zero, natL_one, natL_two, Nat.zero_mul, List.any_cons, List.any_nil, Bool.or_false, Bool.false_or, Bool.true_or, Bool.or_true, Bool.and_true, Bool.true_and, Bool.and_false, Bool.false_and, Bool.not_true, Bool.not_false, Nat.reduceBEq, Nat.reduceEqDiff, decide_true, decide_false, cond_true, cond_false, List.filter_nil, List.filter_cons, Nat.reduceAdd, Nat.reduceLeDiff, reduceCtorEq, List.length_nil, List.length_cons, Nat.mul_one, if_true, if_false, Bool.false_eq_true, eq_self, and_true, true_and, retL, resultsL, resAllL, resOfL, List.append_nil, List.nil_append, List.cons_append, true_or, or_true, false_or, or_false, false_and, and_false, not_true_eq_false, not_false_eq_true, ne_eq, unL, trim_nil, views_pures, LV.pures, LV.pure, freeze, Nat.reduceDiv, Int.reduceEq, Int.reduceLT, Int.reduceLE, Int.natCast_zero, LV.cells, allocL, List.getElem?_cons_zero, List.getElem?_cons_succ, storeL, spliceL, List.take_zero, List.take_succ_cons, List.drop_zero, List.drop_succ_cons, List.drop_nil, List.take_nil, Nat.le_refl, Nat.reduceMul, List.set_cons_zero, List.set_cons_succ, LV.scalar, List.all_cons, List.all_nil, Nat.lt_add_one, Nat.zero_lt_one, Nat.reduceLT, Nat.lt_irrefl, fillL, List.length_append, foldIntL, kind_beq, pures_int, solids_int, plains_int, unders_int, scalars_int, show ((k : Int) < (rs.length : Int)) by omega, hin, hws]
def judF (V : List (List Int)) (o : List Int) : Int := stF (PX V o) (PW V o)
theorem judged_c (nl ex nl' ex' : Bool) (sz sz' : Nat) {rs : List Row} {o : List Int} (D : LOk rs o) (m : LMem) :
    clF LP n_law07_judged [VL nl ex sz rs, IL nl' ex' sz' o] m = some (.P, .tup [.int .i64 (judF (vals rs) o), .agg [.int .i64 (((PX (vals rs) o).headD (0, 0)).1 : Int), .int .i64 (((PX (vals rs) o).headD (0, 0)).2 : Int)]], m) := by
  have h := judged_outer nl ex nl' ex' sz sz' D rs.length 0 [] [] (by omega) (fun _ => rfl)
  rw [List.nil_append, List.nil_append] at h
  have e2 : stF [] ([] : List (Nat × Nat)) = 2 := rfl
  have e3 : stM [] = [⟨[.int .i64 0, .int .i64 0], true⟩] := rfl
  rw [e2, e3, Int.natCast_zero] at h
  have hl : (vals rs).length = rs.length := vals_length rs
  unfold judF PX PW
  rw [hl]
  have hz : ofAVs [.int .i64 0, .int .i64 0] = [.int .i64 0, .int .i64 0] := rfl
  refine call_P lp_law07_judged rfl (by simp [LV.pures, LV.pure]) (m1 := stM (outer (fun i j => decide (0 < eX (vals rs) o i j)) rs.length 0 rs.length)) ?_ rfl m
  simp only [law07_judged, law07_judged.B, beqT, beqF, exF_seq, exF_region, exF_block, exF_cond, exF_ret, exF_exit, exF_skip, runL, wantL, stepL, evL, evC, LEnv.at, putL, loadFine, loadL, cellsAt, Trk.putNew, Trk.up, Trk.touch, Trk.gives, Trk.calm, Trk.hit, opdsOf, Trk.fresh, LEnv.keep, LEnv.ofFrom, List.map_cons, List.map_nil, nbeq, nble, nblt, ofAV, ofAVs, lenL, bin_add, bin_sub, bin_mul, bin_eql, bin_neq, bin_lss, bin_leq, bin_gtr, bin_geq, natL_nat, natL_zero, natL_one, natL_two, Nat.zero_mul, List.any_cons, List.any_nil, Bool.or_false, Bool.false_or, Bool.true_or, Bool.or_true, Bool.and_true, Bool.true_and, Bool.and_false, Bool.false_and, Bool.not_true, Bool.not_false, Nat.reduceBEq, Nat.reduceEqDiff, decide_true, decide_false, cond_true, cond_false, List.filter_nil, List.filter_cons, Nat.reduceAdd, Nat.reduceLeDiff, reduceCtorEq, List.length_nil, List.length_cons, Nat.mul_one, if_true, if_false, Bool.false_eq_true, eq_self, and_true, true_and, retL, resultsL, resAllL, resOfL, List.append_nil, List.nil_append, List.cons_append, true_or, or_true, false_or, or_false, false_and, and_false, not_true_eq_false, not_false_eq_true, ne_eq, unL, trim_nil, views_pures, LV.pures, LV.pure, freeze, Nat.reduceDiv, Int.reduceEq, Int.reduceLT, Int.reduceLE, Int.natCast_zero, LV.cells, allocL, List.getElem?_cons_zero, List.getElem?_cons_succ, storeL, spliceL, List.take_zero, List.take_succ_cons, List.drop_zero, List.drop_succ_cons, List.drop_nil, List.take_nil, Nat.le_refl, Nat.reduceMul, List.set_cons_zero, List.set_cons_succ, LV.scalar, List.all_cons, List.all_nil, Nat.lt_add_one, Nat.zero_lt_one, Nat.reduceLT, Nat.lt_irrefl, fillL, List.length_append, foldIntL, kind_beq, pures_int, solids_int, plains_int, unders_int, scalars_int, hz, h]
end Go.Am.Share

