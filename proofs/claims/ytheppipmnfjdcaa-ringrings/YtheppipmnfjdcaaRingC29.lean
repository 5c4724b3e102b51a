import Derived.Test.YtheppipmnfjdcaaRingC28
import Derived.Test.YtheppipmnfjdcaaRingWorks
import Derived.Carry
/-
  What functions of chapter 04 compute, 29: which lists are rings, of the reference, and the law RingRings.
-/
set_option linter.unusedVariables false
set_option linter.unusedSimpArgs false
set_option maxRecDepth 10000
namespace Go.Am.Ring
open Go.Am.G

theorem provR0_loop (nl ex nl' ex' : Bool) (sz : Nat) (l : List (Int × Int)) (hl : l.length < 1000) (o : List Int) (ho : o.length < 1000) (n : Nat) : ∀ (k : Nat), k + n = o.length →
    exF LP ref04_Proves.L0 [(1, FL nl ex sz l), (2, IL nl' ex' 1 o), (7, .int .i64 0), (8, .int .i64 (k : Int))] [] = some (.exit 0, [(1, FL nl ex sz l), (2, IL nl' ex' 1 o), (7, .int .i64 (chkO (l.length : Int) (o.take k) (o.drop k)))], []) := by
  have hw : IntKind.i64.wrap ((l.length : Int) - 1) = (l.length : Int) - 1 := wrap_in (by omega)
  induction n with
  | zero =>
    intro k hk
    rw [ref04_Proves.L0_eq]
    simp only [ref04_Proves.B0, beqT, exF_seq, exF_region, exF_cond, exF_exit, runL, wantL, stepL, evL, evC, LEnv.at, putL, loadFine, LEnv.keep, List.map_cons, List.map_nil, nbeq, lenL, bin_lss, Nat.reduceEqDiff, decide_true, decide_false, cond_true, cond_false, eq_self, show ¬ ((k : Int) < (o.length : Int)) by omega, List.drop_eq_nil_of_le (show o.length ≤ k by omega), chkO]
  | succ n ih =>
    intro k hk
    have h2 : k < o.length := by omega
    have ih := ih (k + 1) (by omega)
    rw [take_snoc o k h2] at ih
    rw [ref04_Proves.L0_eq, List.drop_eq_getElem_cons h2, chkO]
    have stop : ∀ (v : Int) (hv : v ≠ 0), exF LP ref04_Proves.L0 [(1, FL nl ex sz l), (2, IL nl' ex' 1 o), (7, .int .i64 v), (8, .int .i64 ((k + 1 : Nat) : Int))] [] = some (.exit 0, [(1, FL nl ex sz l), (2, IL nl' ex' 1 o), (7, .int .i64 v)], []) := by
      intro v hv
      rw [ref04_Proves.L0_eq]
      by_cases c : ((k + 1 : Nat) : Int) < (o.length : Int)
      · simp only [ref04_Proves.B0, beqT, exF_seq, exF_region, exF_cond, exF_exit, runL, wantL, stepL, evL, evC, LEnv.at, putL, loadFine, LEnv.keep, List.map_cons, List.map_nil, nbeq, lenL, bin_eql, bin_lss, Nat.reduceEqDiff, decide_true, decide_false, cond_true, cond_false, eq_self, c, hv]
      · simp only [ref04_Proves.B0, beqT, exF_seq, exF_region, exF_cond, exF_exit, runL, wantL, stepL, evL, evC, LEnv.at, putL, loadFine, LEnv.keep, List.map_cons, List.map_nil, nbeq, lenL, bin_lss, Nat.reduceEqDiff, decide_true, decide_false, cond_true, cond_false, eq_self, c]
    by_cases c1 : 0 ≤ o[k] ∧ o[k] < (l.length : Int)
    · have e1 : inB 0 ((l.length : Int) - 1) o[k] = true := by simp only [inB]; rw [decide_eq_true_eq]; omega
      rw [if_pos c1]
      have hp := fun m => place_c nl' (ex' && decide (k = o.length)) 1 (o.take k) o[k] (by simp; omega) m
      have hm := plc_mem (o.take k) o[k]
      have hs := slc_take nl' ex' o k (by omega)
      by_cases c2 : o[k] ∈ o.take k
      · rw [if_pos c2]
        have c3 : 0 ≤ plc (o.take k) o[k] := hm.2 c2
        simp only [ref04_Proves.B0, beqT, exF_seq, exF_region, exF_block, exF_cond, exF_skip, runL, wantL, stepL, evL, evC, LEnv.at, putL, loadFine, loadL, cellsAt, Trk.putNew, Trk.up, Trk.touch, Trk.gives, Trk.calm, opdsOf, Trk.fresh, LEnv.keep, List.map_cons, List.map_nil, nbeq, nble, nblt, ofAVs, lenL, bin_add, bin_sub, bin_eql, bin_lss, bin_geq, natL_nat, List.any_cons, List.any_nil, Bool.or_false, Bool.or_true, Bool.and_true, Bool.false_and, Bool.not_true, Bool.not_false, Nat.reduceEqDiff, decide_true, decide_false, cond_true, cond_false, List.filter_nil, List.filter_cons, Nat.reduceAdd, Nat.reduceLeDiff, reduceCtorEq, List.length_nil, Nat.mul_one, if_true, eq_self, List.append_nil, List.nil_append, unL, Nat.le_refl, show ((k : Int) < (o.length : Int)) by omega, h2, int_at _ _ _ h2, in_c, hw, e1, Option.map_none, Option.map_some, hs, hp, c3, wrap_succ (show k + 1 < 9223372036854775808 by omega), stop 6 (by omega)]
      · rw [if_neg c2]
        have c3 : ¬ 0 ≤ plc (o.take k) o[k] := fun c => c2 (hm.1 c)
        simp only [ref04_Proves.B0, beqT, exF_seq, exF_region, exF_block, exF_cond, exF_skip, runL, wantL, stepL, evL, evC, LEnv.at, putL, loadFine, loadL, cellsAt, Trk.putNew, Trk.up, Trk.touch, Trk.gives, Trk.calm, opdsOf, Trk.fresh, LEnv.keep, List.map_cons, List.map_nil, nbeq, nble, nblt, ofAVs, lenL, bin_add, bin_sub, bin_eql, bin_lss, bin_geq, natL_nat, List.any_cons, List.any_nil, Bool.or_false, Bool.or_true, Bool.and_true, Bool.false_and, Bool.not_true, Bool.not_false, Nat.reduceEqDiff, decide_true, decide_false, cond_true, cond_false, List.filter_nil, List.filter_cons, Nat.reduceAdd, Nat.reduceLeDiff, reduceCtorEq, List.length_nil, Nat.mul_one, if_true, eq_self, List.append_nil, List.nil_append, unL, Nat.le_refl, show ((k : Int) < (o.length : Int)) by omega, h2, int_at _ _ _ h2, in_c, hw, e1, Option.map_none, Option.map_some, hs, hp, c3, wrap_succ (show k + 1 < 9223372036854775808 by omega), ih]
    · have e1 : inB 0 ((l.length : Int) - 1) o[k] = false := by simp only [inB]; rw [decide_eq_false_iff_not]; omega
      rw [if_neg c1]
      simp only [ref04_Proves.B0, beqT, exF_seq, exF_region, exF_block, exF_cond, exF_skip, runL, wantL, stepL, evL, evC, LEnv.at, putL, loadFine, loadL, cellsAt, Trk.putNew, Trk.up, Trk.touch, Trk.gives, Trk.calm, opdsOf, Trk.fresh, LEnv.keep, List.map_cons, List.map_nil, nbeq, nble, nblt, ofAVs, lenL, bin_add, bin_sub, bin_eql, bin_lss, natL_nat, List.any_cons, List.any_nil, Bool.or_false, Bool.or_true, Bool.and_true, Bool.false_and, Bool.not_true, Bool.not_false, Nat.reduceEqDiff, decide_true, decide_false, cond_true, cond_false, List.filter_nil, Nat.reduceAdd, Nat.reduceLeDiff, List.length_nil, Nat.mul_one, eq_self, List.append_nil, List.nil_append, unL, show ((k : Int) < (o.length : Int)) by omega, h2, int_at _ _ _ h2, in_c, hw, e1, wrap_succ (show k + 1 < 9223372036854775808 by omega), stop 2 (by omega)]
theorem provR1_loop (a b : Bool) (z : Nat) (L : List (List Nat)) (i : Nat) (hi : i < L.length) (nl ex : Bool) (R : List Nat) (hR : R.length < 1000) (hl : L[i].length = R.length) (n : Nat) : ∀ (k : Nat), k + n = R.length →
    exF LP ref04_Proves.L1 [(2, IL nl ex 1 (ci R)), (9, .lst a b z L.length (rows L)), (10, .int .i64 (i : Int)), (11, .bool true), (12, .int .i64 (k : Int))] [] = some (.exit 4, [(2, IL nl ex 1 (ci R)), (9, .lst a b z L.length (rows L)), (10, .int .i64 (i : Int)), (11, .bool (decide (L[i].drop k = R.drop k)))], []) := by
  have hcl := ci_len R
  have ra := rowN_at L i hi
  induction n with
  | zero =>
    intro k hk
    rw [ref04_Proves.L1_eq, List.drop_eq_nil_of_le (show R.length ≤ k by omega), List.drop_eq_nil_of_le (show L[i].length ≤ k by omega)]
    simp only [IL, hcl]
    generalize (ci R).map (LV.int .i64) = row at *
    generalize rows L = LL at *
    simp only [ref04_Proves.B1, beqT, exF_seq, exF_region, exF_cond, exF_exit, runL, wantL, stepL, evL, evC, LEnv.at, putL, loadFine, LEnv.keep, List.map_cons, List.map_nil, nbeq, lenL, bin_lss, Nat.reduceEqDiff, decide_true, decide_false, cond_true, cond_false, eq_self, show ¬ ((k : Int) < (R.length : Int)) by omega]
  | succ n ih =>
    intro k hk
    have h2 : k < R.length := by omega
    have h3 : k < L[i].length := by omega
    have hkk : (k : Int) < (R.length : Int) := by omega
    have hw := wrap_succ (show k + 1 < 9223372036854775808 by omega)
    have ih := ih (k + 1) (by omega)
    have hat : (ci R).map (LV.int .i64) = R.map fun y : Nat => LV.int .i64 (y : Int) := by simp
    have hat2 : (ci L[i]).map (LV.int .i64) = L[i].map fun y : Nat => LV.int .i64 (y : Int) := by simp
    have b0 := nat_at .i64 R k h2
    have b1 := nat_at .i64 L[i] k h3
    rw [← hat] at b0
    rw [← hat2] at b1
    have hcl2 := ci_len L[i]
    rw [List.drop_eq_getElem_cons h2, List.drop_eq_getElem_cons h3]
    have stop : exF LP ref04_Proves.L1 [(2, IL nl ex 1 (ci R)), (9, .lst a b z L.length (rows L)), (10, .int .i64 (i : Int)), (11, .bool false), (12, .int .i64 ((k + 1 : Nat) : Int))] [] = some (.exit 4, [(2, IL nl ex 1 (ci R)), (9, .lst a b z L.length (rows L)), (10, .int .i64 (i : Int)), (11, .bool false)], []) := by
      rw [ref04_Proves.L1_eq]
      simp only [IL, hcl]
      generalize (ci R).map (LV.int .i64) = row at *
      generalize rows L = LL at *
      by_cases c : ((k + 1 : Nat) : Int) < (R.length : Int)
      · simp only [ref04_Proves.B1, beqT, exF_seq, exF_region, exF_cond, exF_exit, runL, wantL, stepL, evL, evC, LEnv.at, putL, loadFine, LEnv.keep, List.map_cons, List.map_nil, nbeq, lenL, bin_lss, Nat.reduceEqDiff, decide_true, decide_false, cond_true, cond_false, eq_self, c]
      · simp only [ref04_Proves.B1, beqT, exF_seq, exF_region, exF_cond, exF_exit, runL, wantL, stepL, evL, evC, LEnv.at, putL, loadFine, LEnv.keep, List.map_cons, List.map_nil, nbeq, lenL, bin_lss, Nat.reduceEqDiff, decide_true, decide_false, cond_true, cond_false, eq_self, c]
    rw [ref04_Proves.L1_eq]
    have ra : (rows L)[i]? = some (.lst false false 1 L[i].length ((ci L[i]).map (LV.int .i64))) := by rw [← hcl2]; exact ra
    simp only [IL, hcl, hl] at ih stop ra ⊢
    rw [hl] at h3
    by_cases c : L[i][k] = R[k]
    · have c' : ((L[i][k] : Nat) : Int) = ((R[k] : Nat) : Int) := by omega
      have e : decide (L[i][k] :: L[i].drop (k + 1) = R[k] :: R.drop (k + 1)) = decide (L[i].drop (k + 1) = R.drop (k + 1)) := by rw [decide_eq_decide, List.cons.injEq]; simp [c]
      rw [e]
      generalize decide (L[i].drop (k + 1) = R.drop (k + 1)) = q at *
      rw [c] at b1
      generalize (ci R).map (LV.int .i64) = row at *
      generalize (ci L[i]).map (LV.int .i64) = row2 at *
      generalize rows L = LL at *
      simp only [ref04_Proves.B1, beqT, exF_seq, exF_region, exF_block, exF_cond, exF_skip, runL, wantL, stepL, evL, evC, LEnv.at, putL, loadFine, loadL, cellsAt, Trk.putNew, Trk.up, Trk.touch, Trk.gives, Trk.calm, opdsOf, Trk.fresh, LEnv.keep, List.map_cons, List.map_nil, nbeq, nble, nblt, lenL, bin_add, bin_eql, bin_lss, natL_nat, List.any_cons, List.any_nil, Bool.or_false, Bool.or_true, Bool.and_true, Bool.false_and, Bool.not_true, Bool.not_false, Nat.reduceEqDiff, decide_true, decide_false, cond_true, cond_false, List.filter_nil, Nat.reduceAdd, reduceCtorEq, List.length_nil, Nat.mul_one, eq_self, Nat.le_refl, hkk, h2, hi, ra, b0, b1, hw, ih]
    · have c' : ¬ ((L[i][k] : Nat) : Int) = ((R[k] : Nat) : Int) := by omega
      have e : decide (L[i][k] :: L[i].drop (k + 1) = R[k] :: R.drop (k + 1)) = false := by rw [decide_eq_false_iff_not, List.cons.injEq]; exact fun h => c h.1
      rw [e]
      generalize L[i][k] = x1 at *
      generalize (ci R).map (LV.int .i64) = row at *
      generalize (ci L[i]).map (LV.int .i64) = row2 at *
      generalize rows L = LL at *
      simp only [ref04_Proves.B1, beqT, exF_seq, exF_region, exF_block, exF_cond, exF_skip, runL, wantL, stepL, evL, evC, LEnv.at, putL, loadFine, loadL, cellsAt, Trk.putNew, Trk.up, Trk.touch, Trk.gives, Trk.calm, opdsOf, Trk.fresh, LEnv.keep, List.map_cons, List.map_nil, nbeq, nble, nblt, lenL, bin_add, bin_eql, bin_lss, natL_nat, List.any_cons, List.any_nil, Bool.or_false, Bool.or_true, Bool.and_true, Bool.false_and, Bool.not_true, Bool.not_false, Nat.reduceEqDiff, decide_true, decide_false, cond_true, cond_false, List.filter_nil, Nat.reduceAdd, reduceCtorEq, List.length_nil, Nat.mul_one, eq_self, Nat.le_refl, hkk, h2, hi, ra, b0, b1, hw, c', stop]
theorem provR2_loop (a b : Bool) (z : Nat) (L : List (List Nat)) (hL : L.length < 1000000000) (nl ex : Bool) (R : List Nat) (hR : R.length < 1000) (n : Nat) : ∀ (i : Nat), i + n = L.length →
    exF LP ref04_Proves.L2 [(2, IL nl ex 1 (ci R)), (9, .lst a b z L.length (rows L)), (10, .int .i64 (i : Int))] [] = if R ∈ L.drop i then some (.ret, [(6, .int .i64 0)], []) else some (.exit 2, [], []) := by
  have hcl := ci_len R
  induction n with
  | zero =>
    intro i hi
    rw [ref04_Proves.L2_eq, List.drop_eq_nil_of_le (show L.length ≤ i by omega), if_neg (by simp)]
    generalize rows L = LL at *
    simp only [ref04_Proves.B2, exF_seq, exF_region, exF_cond, exF_exit, runL, wantL, stepL, evL, LEnv.at, putL, loadFine, LEnv.keep, List.map_cons, List.map_nil, nbeq, lenL, bin_lss, Nat.reduceEqDiff, decide_true, decide_false, cond_true, cond_false, eq_self, show ¬ ((i : Int) < (L.length : Int)) by omega]
  | succ n ih =>
    intro i hi
    have h2 : i < L.length := by omega
    have hii : (i : Int) < (L.length : Int) := by omega
    have hw := wrap_succ (show i + 1 < 9223372036854775808 by omega)
    have ih := ih (i + 1) (by omega)
    have ra := rowN_at L i h2
    have hcl2 := ci_len L[i]
    have ra : (rows L)[i]? = some (.lst false false 1 L[i].length ((ci L[i]).map (LV.int .i64))) := by rw [← hcl2]; exact ra
    rw [ref04_Proves.L2_eq, List.drop_eq_getElem_cons h2]
    by_cases c : L[i].length = R.length
    · have c' : ((L[i].length : Nat) : Int) = ((R.length : Nat) : Int) := by omega
      have h1 := provR1_loop a b z L i h2 nl ex R hR c R.length 0 (by omega)
      rw [List.drop_zero, List.drop_zero] at h1
      simp only [Int.natCast_zero] at h1
      by_cases c2 : L[i] = R
      · rw [decide_eq_true c2] at h1
        rw [if_pos (by rw [c2]; simp)]
        simp only [IL, hcl] at h1 ⊢
        generalize (ci R).map (LV.int .i64) = row at *
        generalize (ci L[i]).map (LV.int .i64) = row2 at *
        generalize rows L = LL at *
        simp only [ref04_Proves.B2, exF_seq, exF_region, exF_block, exF_cond, exF_ret, exF_skip, runL, wantL, stepL, evL, evC, LEnv.at, putL, loadFine, loadL, cellsAt, Trk.putNew, Trk.up, Trk.touch, Trk.gives, Trk.calm, opdsOf, Trk.fresh, LEnv.keep, List.map_cons, List.map_nil, nbeq, nble, nblt, lenL, bin_eql, bin_lss, natL_nat, List.any_cons, List.any_nil, Bool.or_false, Bool.or_true, Bool.and_true, Bool.false_and, Bool.not_true, Bool.not_false, Nat.reduceEqDiff, decide_true, decide_false, cond_true, cond_false, List.filter_nil, Nat.reduceAdd, Nat.reduceLeDiff, List.length_nil, Nat.mul_one, eq_self, hii, h2, ra, c', h1]
      · rw [decide_eq_false c2] at h1
        have e : (R ∈ L[i] :: L.drop (i + 1)) = (R ∈ L.drop (i + 1)) := by
          rw [List.mem_cons]
          exact propext ⟨fun h => h.resolve_left fun e => c2 e.symm, .inr⟩
        simp only [e]
        rw [← ih]
        simp only [IL, hcl] at h1 ⊢
        generalize (ci R).map (LV.int .i64) = row at *
        generalize (ci L[i]).map (LV.int .i64) = row2 at *
        generalize rows L = LL at *
        simp only [ref04_Proves.B2, exF_seq, exF_region, exF_block, exF_cond, exF_skip, runL, wantL, stepL, evL, evC, LEnv.at, putL, loadFine, loadL, cellsAt, Trk.putNew, Trk.up, Trk.touch, Trk.gives, Trk.calm, opdsOf, Trk.fresh, LEnv.keep, List.map_cons, List.map_nil, nbeq, nble, nblt, lenL, bin_add, bin_eql, bin_lss, natL_nat, List.any_cons, List.any_nil, Bool.or_false, Bool.or_true, Bool.and_true, Bool.false_and, Bool.not_true, Bool.not_false, Nat.reduceEqDiff, decide_true, decide_false, cond_true, cond_false, List.filter_nil, Nat.reduceAdd, Nat.reduceLeDiff, List.length_nil, Nat.mul_one, eq_self, hii, h2, ra, c', h1, hw]
    · have c' : ¬ ((L[i].length : Nat) : Int) = ((R.length : Nat) : Int) := by omega
      have e : (R ∈ L[i] :: L.drop (i + 1)) = (R ∈ L.drop (i + 1)) := by
        rw [List.mem_cons]
        exact propext ⟨fun h => h.resolve_left fun e => c (by rw [e]), .inr⟩
      simp only [e]
      rw [← ih]
      have stop : exF LP ref04_Proves.L1 [(2, IL nl ex 1 (ci R)), (9, .lst a b z L.length (rows L)), (10, .int .i64 (i : Int)), (11, .bool false), (12, .int .i64 0)] [] = some (.exit 4, [(2, IL nl ex 1 (ci R)), (9, .lst a b z L.length (rows L)), (10, .int .i64 (i : Int)), (11, .bool false)], []) := by
        rw [ref04_Proves.L1_eq]
        simp only [IL, hcl]
        generalize (ci R).map (LV.int .i64) = row at *
        generalize rows L = LL at *
        by_cases c : (0 : Int) < (R.length : Int)
        · simp only [ref04_Proves.B1, beqT, exF_seq, exF_region, exF_cond, exF_exit, runL, wantL, stepL, evL, evC, LEnv.at, putL, loadFine, LEnv.keep, List.map_cons, List.map_nil, nbeq, lenL, bin_lss, Nat.reduceEqDiff, decide_true, decide_false, cond_true, cond_false, eq_self, c]
        · simp only [ref04_Proves.B1, beqT, exF_seq, exF_region, exF_cond, exF_exit, runL, wantL, stepL, evL, evC, LEnv.at, putL, loadFine, LEnv.keep, List.map_cons, List.map_nil, nbeq, lenL, bin_lss, Nat.reduceEqDiff, decide_true, decide_false, cond_true, cond_false, eq_self, c]
      simp only [IL, hcl] at stop ⊢
      generalize (ci R).map (LV.int .i64) = row at *
      generalize (ci L[i]).map (LV.int .i64) = row2 at *
      generalize rows L = LL at *
      simp only [ref04_Proves.B2, exF_seq, exF_region, exF_block, exF_cond, exF_skip, runL, wantL, stepL, evL, evC, LEnv.at, putL, loadFine, loadL, cellsAt, Trk.putNew, Trk.up, Trk.touch, Trk.gives, Trk.calm, opdsOf, Trk.fresh, LEnv.keep, List.map_cons, List.map_nil, nbeq, nble, nblt, lenL, bin_add, bin_eql, bin_lss, natL_nat, List.any_cons, List.any_nil, Bool.or_false, Bool.or_true, Bool.and_true, Bool.false_and, Bool.not_true, Bool.not_false, Nat.reduceEqDiff, decide_true, decide_false, cond_true, cond_false, List.filter_nil, Nat.reduceAdd, Nat.reduceLeDiff, List.length_nil, Nat.mul_one, eq_self, hii, h2, ra, c', stop, hw]
theorem provesR_c {n : Nat} {P : List (Nat × Nat)} (G : Good n P) (nl ex nl' ex' : Bool) (sz : Nat) (w : List Int) (hw : w.length < 1000) (m : LMem) : clF LP n_ref04_Proves [.int .i64 (n : Int), FN nl ex sz P, IL nl' ex' 1 w] m = some (.P, .int .i64 (provV (n : Int) (P.map castP) w), m) := by
  have hc := fun m => checkR_c nl ex sz (n : Int) (P.map castP) (by have := G.le12; simp; omega) m
  rw [chkF_of G] at hc
  have h0 := provR0_loop nl ex nl' ex' sz (P.map castP) (by have := G.le12; simp; omega) w hw w.length 0 (by omega)
  rw [List.take_zero, List.drop_zero, List.length_map] at h0
  simp only [Int.natCast_zero] at h0
  obtain ⟨a, b, z, hz, hal⟩ := allR_c G nl ex sz
  have hlen := allR_len G
  refine call_P lp_ref04_Proves rfl (by simp [LV.pures, LV.pure]) (m1 := []) ?_ rfl m
  by_cases h : chkO (P.length : Int) [] w = 0
  · obtain ⟨R, rfl, hR, hnd, _⟩ := chkO_some P.length w [] h
    rw [provV_of G h]
    rw [h] at h0
    have h2 := provR2_loop a b z (allR P) (by omega) nl' ex' R (by rw [ci_len] at hw; exact hw) (allR P).length 0 (by omega)
    rw [List.drop_zero] at h2
    simp only [Int.natCast_zero] at h2
    simp only [IL] at h0 h2 ⊢
    generalize (ci R).map (LV.int .i64) = row at *
    generalize (ci R).length = L at *
    generalize rows (allR P) = AL at *
    by_cases c : R ∈ allR P
    · rw [if_pos c] at h2 ⊢
      simp only [FN_eq] at hc h0 hal ⊢
      simp only [ref04_Proves, ref04_Proves.B, exF_seq, exF_region, exF_block, exF_cond, exF_skip, runL, wantL, stepL, evL, evC, LEnv.at, putL, loadFine, LEnv.keep, LEnv.ofFrom, List.map_cons, List.map_nil, nbeq, ofAVs, bin_neq, Nat.reduceEqDiff, decide_true, decide_false, cond_true, cond_false, Nat.reduceAdd, reduceCtorEq, eq_self, retL, resultsL, resAllL, resOfL, List.append_nil, List.nil_append, not_true_eq_false, ne_eq, hc, h0, hal, h2]
    · rw [if_neg c] at h2 ⊢
      simp only [FN_eq] at hc h0 hal ⊢
      simp only [ref04_Proves, ref04_Proves.B, exF_seq, exF_region, exF_block, exF_cond, exF_ret, exF_skip, runL, wantL, stepL, evL, evC, LEnv.at, putL, loadFine, LEnv.keep, LEnv.ofFrom, List.map_cons, List.map_nil, nbeq, ofAVs, bin_neq, Nat.reduceEqDiff, decide_true, decide_false, cond_true, cond_false, Nat.reduceAdd, reduceCtorEq, eq_self, retL, resultsL, resAllL, resOfL, List.append_nil, List.nil_append, not_true_eq_false, ne_eq, hc, h0, hal, h2]
  · have hv : provV (n : Int) (P.map castP) w = chkO (P.length : Int) [] w := by
      unfold provV
      rw [chkF_of G, List.length_map, if_neg (by simp), if_pos h]
    rw [hv]
    simp only [FN_eq] at hc h0 ⊢
    simp only [ref04_Proves, ref04_Proves.B, exF_seq, exF_region, exF_block, exF_cond, exF_ret, runL, wantL, stepL, evL, evC, LEnv.at, putL, loadFine, LEnv.keep, LEnv.ofFrom, List.map_cons, List.map_nil, nbeq, ofAVs, bin_neq, Nat.reduceEqDiff, decide_true, decide_false, cond_true, cond_false, Nat.reduceAdd, reduceCtorEq, eq_self, retL, resultsL, resAllL, resOfL, List.append_nil, List.nil_append, not_false_eq_true, ne_eq, hc, h0, h]
theorem provesR_e (N : Int) (l : List (Int × Int)) (hl : l.length < 1000000) (h : chkF N l ≠ 0) (nl ex nl' ex' : Bool) (sz : Nat) (w : List Int) (m : LMem) :
    clF LP n_ref04_Proves [.int .i64 N, FL nl ex sz l, IL nl' ex' 1 w] m = some (.P, .int .i64 (provV N l w), m) := by
  have hc := fun m => checkR_c nl ex sz N l hl m
  have hv : provV N l w = chkF N l := by unfold provV; rw [if_pos h]
  rw [hv]
  refine call_P lp_ref04_Proves rfl (by simp [LV.pures, LV.pure]) (m1 := []) ?_ rfl m
  have h0 : exF LP ref04_Proves.L0 [(1, FL nl ex sz l), (2, IL nl' ex' 1 w), (7, .int .i64 (chkF N l)), (8, .int .i64 0)] [] = some (.exit 0, [(1, FL nl ex sz l), (2, IL nl' ex' 1 w), (7, .int .i64 (chkF N l))], []) := by
    rw [ref04_Proves.L0_eq]
    by_cases c : (0 : Int) < (w.length : Int)
    · simp only [ref04_Proves.B0, beqT, exF_seq, exF_region, exF_cond, exF_exit, runL, wantL, stepL, evL, evC, LEnv.at, putL, loadFine, LEnv.keep, List.map_cons, List.map_nil, nbeq, lenL, bin_eql, bin_lss, Nat.reduceEqDiff, decide_true, decide_false, cond_true, cond_false, eq_self, c, h]
    · simp only [ref04_Proves.B0, beqT, exF_seq, exF_region, exF_cond, exF_exit, runL, wantL, stepL, evL, evC, LEnv.at, putL, loadFine, LEnv.keep, List.map_cons, List.map_nil, nbeq, lenL, bin_lss, Nat.reduceEqDiff, decide_true, decide_false, cond_true, cond_false, eq_self, c]
  simp only [ref04_Proves, ref04_Proves.B, exF_seq, exF_region, exF_block, exF_cond, exF_ret, runL, wantL, stepL, evL, evC, LEnv.at, putL, loadFine, LEnv.keep, LEnv.ofFrom, List.map_cons, List.map_nil, nbeq, ofAVs, bin_neq, Nat.reduceEqDiff, decide_true, decide_false, cond_true, cond_false, Nat.reduceAdd, reduceCtorEq, eq_self, retL, resultsL, resAllL, resOfL, List.append_nil, List.nil_append, not_false_eq_true, ne_eq, hc, h0, h]
theorem proves_both (N : Int) (l : List (Int × Int)) (hl : l.length < 1000000) (nl nl' : Bool) (w : List Int) (hw : w.length < 1000) : (∀ m, clF LP n_ring_Proves [.int .i64 N, FL nl false 2 l, IL nl' false 1 w] m = some (.P, .int .i64 (provV N l w), m)) ∧ (∀ m, clF LP n_ref04_Proves [.int .i64 N, FL nl false 2 l, IL nl' false 1 w] m = some (.P, .int .i64 (provV N l w), m)) := by
  by_cases h : chkF N l = 0
  · obtain ⟨n, P, rfl, rfl, G⟩ := good_of h
    exact ⟨fun m => proves_c G nl false nl' false 2 w hw m, fun m => provesR_c G nl false nl' false 2 w hw m⟩
  · exact ⟨fun m => proves_e N l hl h nl false nl' false 2 w m, fun m => provesR_e N l hl h nl false nl' false 2 w m⟩
theorem rings_law (N : Int) (nl nl' : Bool) (l : List (Int × Int)) (w : List Int) : clF LP n_law04_RingRings [.int .i64 N, FL nl false 2 l, IL nl' false 1 w] [] = some (.P, .bool true, []) := by
  refine call_P lp_law04_RingRings rfl (by simp [LV.pures, LV.pure]) (m1 := []) ?_ rfl []
  by_cases h1 : 40 < l.length
  · have h1' : (40 : Int) < (l.length : Int) := by omega
    simp only [law04_RingRings, law04_RingRings.B, law04_RingRings.B.R0, beqF, exF_seq, exF_region, exF_cond, exF_ret, runL, wantL, stepL, evL, evC, LEnv.at, putL, loadFine, LEnv.keep, LEnv.ofFrom, List.map_cons, List.map_nil, nbeq, ofAVs, lenL, bin_gtr, Bool.not_true, Nat.reduceEqDiff, decide_true, decide_false, cond_true, cond_false, Nat.reduceAdd, reduceCtorEq, eq_self, retL, resultsL, resAllL, resOfL, List.append_nil, h1', works_c]
  · have h1' : ¬ (40 : Int) < (l.length : Int) := by omega
    by_cases h2 : 40 < w.length
    · have h2' : (40 : Int) < (w.length : Int) := by omega
      simp only [law04_RingRings, law04_RingRings.B, law04_RingRings.B.R0, beqF, exF_seq, exF_region, exF_cond, exF_ret, runL, wantL, stepL, evL, evC, LEnv.at, putL, loadFine, LEnv.keep, LEnv.ofFrom, List.map_cons, List.map_nil, nbeq, ofAVs, lenL, bin_gtr, Bool.not_false, Nat.reduceEqDiff, decide_true, decide_false, cond_true, cond_false, Nat.reduceAdd, reduceCtorEq, eq_self, retL, resultsL, resAllL, resOfL, List.append_nil, h1', h2', works_c]
    · have h2' : ¬ (40 : Int) < (w.length : Int) := by omega
      obtain ⟨a, b, z, x, e, hx, r1, r2⟩ := ring_both N l (by omega) nl
      obtain ⟨p1, p2⟩ := proves_both N l (by omega) nl nl' w (by omega)
      have hsm : ∀ m, clF LP n_law04_same [IL a b z x, IL a b z x] m = some (.P, .bool true, m) := fun m => by rw [same_c a b a b z z x x hx hx m]; simp
      generalize provV N l w = V at *
      generalize IL a b z x = Z at *
      simp only [law04_RingRings, law04_RingRings.B, law04_RingRings.B.R0, law04_RingRings.B.R1, law04_RingRings.B.R2, law04_RingRings.B.R3, beqT, beqF, exF_seq, exF_region, exF_cond, exF_ret, exF_skip, runL, wantL, stepL, evL, evC, LEnv.at, putL, loadFine, LEnv.keep, LEnv.ofFrom, List.map_cons, List.map_nil, nbeq, ofAVs, lenL, bin_eql, bin_gtr, Bool.not_false, Nat.reduceEqDiff, decide_true, decide_false, cond_true, cond_false, Nat.reduceAdd, reduceCtorEq, eq_self, retL, resultsL, resAllL, resOfL, List.append_nil, List.nil_append, List.getElem?_cons_zero, List.getElem?_cons_succ, h1', h2', r1, r2, p1, p2, hsm, works_c]
theorem rings_in (N : Int) (nl : Bool) (l : List (Int × Int)) (hnl : nl = true → l = []) (nl' : Bool) (w : List Int) (_ : nl' = true → w = []) :
    clF LP n_law04_RingRings [.int .i64 N, .lst nl false 2 l.length ((flatP l).map (LV.int .i64)), IL nl' false 1 w] [] = some (.P, .bool true, []) := by
  rw [← pcI_flat]
  exact rings_law N nl nl' l w
end Go.Am.Ring

/-
  THE JOIN, 3: arguments read behind the call as before it.
-/
set_option linter.unusedVariables false
namespace Go.Am
variable [Glo]
open Go.RowKit
omit [Glo] in
theorem trodAll_below {H : Type} {enc : TypeId × Value → H} {P : Program} {W W' : World} (hl : laidOutB P = true) (hb : Below W.heap.size W W') : ∀ {ts : List TypeId} {vs : List Value} {ds : List (DataW H)} {ps : List MemPlace}, (ts.all fun t => P.readableRec t && decide (t < P.types.size)) = true →
    DataW.TrodAll enc P W 0 (fun _ => true) true ts vs ds ps → (∀ x ∈ ps, x.block < W.heap.size) → DataW.TrodAll enc P W' 0 (fun b => decide (b < W.heap.size)) true ts vs ds ps
  | [], [], [], _, _, h, _ => h
  | t :: ts, v :: vs, d :: ds, ps, hr, ⟨p, q, h1, h2, e⟩, hlt => by
    simp only [List.all_cons, Bool.and_eq_true, decide_eq_true_eq] at hr
    subst e
    exact ⟨p, q, Below.trod hl hr.1.1 hr.1.2 h1 hb (fun x hx => hlt x (List.mem_append_left _ hx)), trodAll_below hl hb hr.2 h2 (fun x hx => hlt x (List.mem_append_right _ hx)), rfl⟩
end Go.Am

/-
  THE JOIN, 4: structs of bytes that came in.
-/
set_option linter.unusedVariables false
namespace Go.Am
variable [Glo]
open Go.RowKit

section
variable {H : Type} {enc : TypeId × Value → H} {P : Program} {w : World} {base : Nat} {sp : Nat → Bool} {held : Bool}
end
end Go.Am


