/-
  What functions of chapter 04 compute, 15: finds turned round, as the reference says.
-/
import Derived.Test.YtheppipmnfjdcaaRingC14
set_option linter.unusedVariables false
set_option linter.unusedSimpArgs false
set_option maxRecDepth 10000
namespace Go.Am.Ring
open Go.Am.G

theorem turnR_stop (nl ex nl' ex' : Bool) (sz sz' : Nat) (l : List (Int × Int)) (w : List Int) (v k : Int) (hv : v ≠ 0) : exF LP ref04_Turn.L0 [(1, FL nl ex sz l), (2, IL nl' ex' sz' w), (8, .int .i64 v), (9, .int .i64 k)] [] = some (.exit 0, [(1, FL nl ex sz l), (2, IL nl' ex' sz' w), (8, .int .i64 v)], []) := by
  rw [ref04_Turn.L0_eq]
  by_cases c : k < (w.length : Int)
  · simp only [ref04_Turn.B0, beqT, exF_seq, exF_region, exF_cond, exF_exit, runL, wantL, stepL, evL, evC, LEnv.at, putL, loadFine, LEnv.keep, List.map_cons, List.map_nil, nbeq, lenL, bin_eql, bin_lss, Nat.reduceEqDiff, decide_true, decide_false, cond_true, cond_false, eq_self, c, hv]
  · simp only [ref04_Turn.B0, beqT, exF_seq, exF_region, exF_cond, exF_exit, runL, wantL, stepL, evL, evC, LEnv.at, putL, loadFine, LEnv.keep, List.map_cons, List.map_nil, nbeq, lenL, bin_lss, Nat.reduceEqDiff, decide_true, decide_false, cond_true, cond_false, eq_self, c]
theorem turnR_0 (nl ex nl' ex' : Bool) (sz sz' : Nat) (l : List (Int × Int)) (hl : l.length ≤ 12) (w : List Int) (hw : w.length < 1000) (j : Nat) : ∀ (k : Nat) (last : Int), k + j = w.length → (k = 0 → last = -1) → (∀ (h : 0 < k) (h2 : k - 1 < w.length), last = w[k - 1]) →
    exF LP ref04_Turn.L0 [(1, FL nl ex sz l), (2, IL nl' ex' sz' w), (8, .int .i64 0), (9, .int .i64 (k : Int))] [] = some (.exit 0, [(1, FL nl ex sz l), (2, IL nl' ex' sz' w), (8, .int .i64 (chkW (l.length : Int) last (w.drop k)))], []) := by
  have hwr : IntKind.i64.wrap ((l.length : Int) - 1) = (l.length : Int) - 1 := wrap_in (by omega)
  induction j with
  | zero =>
    intro k last hk _ _
    rw [ref04_Turn.L0_eq]
    simp only [ref04_Turn.B0, beqT, exF_seq, exF_region, exF_cond, exF_exit, runL, wantL, stepL, evL, evC, LEnv.at, putL, loadFine, LEnv.keep, List.map_cons, List.map_nil, nbeq, lenL, bin_lss, Nat.reduceEqDiff, decide_true, decide_false, cond_true, cond_false, eq_self, show ¬ ((k : Int) < (w.length : Int)) by omega, List.drop_eq_nil_of_le (show w.length ≤ k by omega), chkW]
  | succ j ih =>
    intro k last hk h0 h1
    have h2 : k < w.length := by omega
    have hki : (k : Int) < (w.length : Int) := by omega
    have hat := int_at .i64 w k h2
    have hs := wrap_succ (show k + 1 < 9223372036854775808 by omega)
    rw [ref04_Turn.L0_eq, List.drop_eq_getElem_cons h2, chkW]
    by_cases c1 : 0 ≤ w[k] ∧ w[k] < (l.length : Int)
    · have e1 : inB 0 ((l.length : Int) - 1) w[k] = true := by simp only [inB]; rw [decide_eq_true_eq]; omega
      rw [if_pos c1]
      have ih := ih (k + 1) w[k] (by omega) (by omega) (fun _ _ => rfl)
      by_cases hk0 : k = 0
      · have hla := h0 hk0
        have c2 : ¬ w[k] ≤ last := by omega
        rw [if_neg c2]
        have hz : ¬ (0 : Int) < (k : Int) := by omega
        simp only [ref04_Turn.B0, beqT, exF_seq, exF_region, exF_block, exF_cond, exF_skip, runL, wantL, stepL, evL, evC, LEnv.at, putL, loadFine, loadL, cellsAt, Trk.putNew, Trk.up, Trk.touch, Trk.gives, Trk.calm, opdsOf, Trk.fresh, LEnv.keep, List.map_cons, List.map_nil, nbeq, nble, nblt, ofAVs, lenL, bin_add, bin_sub, bin_eql, bin_lss, bin_gtr, natL_nat, List.any_cons, List.any_nil, Bool.or_false, Bool.or_true, Bool.and_true, Bool.false_and, Bool.not_true, Bool.not_false, Nat.reduceEqDiff, decide_true, decide_false, cond_true, cond_false, List.filter_nil, Nat.reduceAdd, Nat.reduceLeDiff, List.length_nil, Nat.mul_one, eq_self, List.append_nil, List.nil_append, unL, trim_nil, hki, h2, hat, hwr, in_c, e1, hz, hs, ih]
      · have hla := h1 (by omega) (by omega)
        have hz : (0 : Int) < (k : Int) := by omega
        have hw1 : IntKind.i64.wrap ((k : Int) - 1) = ((k - 1 : Nat) : Int) := by rw [wrap_in (by omega)]; omega
        have h3 : k - 1 < w.length := by omega
        have hat1 := int_at .i64 w (k - 1) h3
        rw [← hla] at hat1
        by_cases c2 : w[k] ≤ last
        · rw [if_pos c2]
          have hst := turnR_stop nl ex nl' ex' sz sz' l w 7 ((k + 1 : Nat) : Int) (by omega)
          simp only [ref04_Turn.B0, beqT, exF_seq, exF_region, exF_block, exF_cond, exF_skip, runL, wantL, stepL, evL, evC, LEnv.at, putL, loadFine, loadL, cellsAt, Trk.putNew, Trk.up, Trk.touch, Trk.gives, Trk.calm, opdsOf, Trk.fresh, LEnv.keep, List.map_cons, List.map_nil, nbeq, nble, nblt, ofAVs, lenL, bin_add, bin_sub, bin_eql, bin_lss, bin_leq, bin_gtr, natL_nat, List.any_cons, List.any_nil, Bool.or_false, Bool.or_true, Bool.and_true, Bool.false_and, Bool.not_true, Bool.not_false, Nat.reduceEqDiff, decide_true, decide_false, cond_true, cond_false, List.filter_nil, Nat.reduceAdd, Nat.reduceLeDiff, reduceCtorEq, List.length_nil, Nat.mul_one, eq_self, List.append_nil, List.nil_append, unL, trim_nil, Nat.le_refl, hki, h2, hat, hwr, in_c, e1, hz, hw1, h3, hat1, c2, hs, hst]
        · rw [if_neg c2]
          simp only [ref04_Turn.B0, beqT, exF_seq, exF_region, exF_block, exF_cond, exF_skip, runL, wantL, stepL, evL, evC, LEnv.at, putL, loadFine, loadL, cellsAt, Trk.putNew, Trk.up, Trk.touch, Trk.gives, Trk.calm, opdsOf, Trk.fresh, LEnv.keep, List.map_cons, List.map_nil, nbeq, nble, nblt, ofAVs, lenL, bin_add, bin_sub, bin_eql, bin_lss, bin_leq, bin_gtr, natL_nat, List.any_cons, List.any_nil, Bool.or_false, Bool.or_true, Bool.and_true, Bool.false_and, Bool.not_true, Bool.not_false, Nat.reduceEqDiff, decide_true, decide_false, cond_true, cond_false, List.filter_nil, Nat.reduceAdd, Nat.reduceLeDiff, reduceCtorEq, List.length_nil, Nat.mul_one, eq_self, List.append_nil, List.nil_append, unL, trim_nil, Nat.le_refl, hki, h2, hat, hwr, in_c, e1, hz, hw1, h3, hat1, c2, hs, ih]
    · have e1 : inB 0 ((l.length : Int) - 1) w[k] = false := by simp only [inB]; rw [decide_eq_false_iff_not]; omega
      rw [if_neg c1]
      have hst := turnR_stop nl ex nl' ex' sz sz' l w 2 ((k + 1 : Nat) : Int) (by omega)
      simp only [ref04_Turn.B0, beqT, exF_seq, exF_region, exF_block, exF_cond, exF_skip, runL, wantL, stepL, evL, evC, LEnv.at, putL, loadFine, loadL, cellsAt, Trk.putNew, Trk.up, Trk.touch, Trk.gives, Trk.calm, opdsOf, Trk.fresh, LEnv.keep, List.map_cons, List.map_nil, nbeq, nble, nblt, ofAVs, lenL, bin_add, bin_sub, bin_eql, bin_lss, natL_nat, List.any_cons, List.any_nil, Bool.or_false, Bool.or_true, Bool.and_true, Bool.false_and, Bool.not_true, Bool.not_false, Nat.reduceEqDiff, decide_true, decide_false, cond_true, cond_false, List.filter_nil, Nat.reduceAdd, Nat.reduceLeDiff, List.length_nil, Nat.mul_one, eq_self, List.append_nil, List.nil_append, unL, trim_nil, hki, h2, hat, hwr, in_c, e1, hs, hst]
theorem turnR_1 (nl ex nl' ex' : Bool) (sz sz' : Nat) (l : List (Int × Int)) (hl : l.length ≤ 12) (w : List Int) (hw : w.length < 1000) (j : Nat) : ∀ (k : Nat) (M : LMem) (v : LV) (out : List (Int × Int)), k + j = l.length → out.length = k → Lst M v 2 out.length (pcI out) →
    ∃ v' M', exF LP ref04_Turn.L1 [(1, FL nl ex sz l), (2, IL nl' ex' sz' w), (10, v), (11, .int .i64 (k : Int))] M = some (.exit 2, [(10, v')], M') ∧ Lst M' v' 2 (out ++ twF w k (l.drop k)).length (pcI (out ++ twF w k (l.drop k))) := by
  induction j with
  | zero =>
    intro k M v out hk ho hL
    refine ⟨v, M, ?_, by rw [List.drop_eq_nil_of_le (by omega)]; simpa [twF] using hL⟩
    rw [ref04_Turn.L1_eq]
    simp only [ref04_Turn.B1, exF_seq, exF_region, exF_cond, exF_exit, runL, wantL, stepL, evL, LEnv.at, putL, loadFine, LEnv.keep, List.map_cons, List.map_nil, nbeq, lenL, bin_lss, Nat.reduceEqDiff, decide_true, decide_false, cond_true, cond_false, eq_self, show ¬ ((k : Int) < (l.length : Int)) by omega]
  | succ j ih =>
    intro k M v out hk ho hL
    have h2 : k < l.length := by omega
    have hki : (k : Int) < (l.length : Int) := by omega
    have hs := wrap_succ (show k + 1 < 9223372036854775808 by omega)
    have s0 := pcI_seg l k h2
    have ok := pcI_ok l k h2
    have hp := fun m => place_c nl' ex' sz' w (k : Int) (by omega) m
    have hpm := plc_mem w (k : Int)
    rw [ref04_Turn.L1_eq, List.drop_eq_getElem_cons h2, twF]
    have snoc : ∀ p, pcI (out ++ [p]) = pcI out ++ [.int .i64 p.1, .int .i64 p.2] := fun p => by simp [pcI, pc]
    by_cases c : (k : Int) ∈ w
    · have c' : 0 ≤ plc w (k : Int) := hpm.2 c
      rw [if_pos c, List.append_cons]
      have hLM : Lst (M ++ [⟨[.int .i64 l[k].2, .int .i64 l[k].1], true⟩]) v 2 out.length (pcI out) := hL.mono fun i hi => List.getElem?_append_left (hL.lt i hi)
      obtain ⟨v3, m3, hap, hL3, _, _, _⟩ := hLM.append (x := .lst false true 2 1 [.int .i64 l[k].2, .int .i64 l[k].1]) (k := 1) (news := [.int .i64 l[k].2, .int .i64 l[k].1]) (bytes := 16) (by simp [contents, nbeq]) rfl (by omega) (by omega) rfl
      have hL3 : Lst m3 v3 2 (out ++ [swp l[k]]).length (pcI (out ++ [swp l[k]])) := by rw [snoc]; simpa [swp] using hL3
      generalize hvs : ([FL nl ex sz l, IL nl' ex' sz' w, v3, .int .i64 ((k + 1 : Nat) : Int)] : List LV) = vs
      have hvm : v3 ∈ vs := by rw [← hvs]; simp
      obtain ⟨v', M', hex, hL'⟩ := ih (k + 1) (trim M.length vs m3) v3 (out ++ [swp l[k]]) (by omega) (by simp; omega) (lst_trim hL3 _ _ hvm)
      refine ⟨v', M', ?_, hL'⟩
      subst hvs
      simp only [ref04_Turn.B1, exF_seq, exF_region, exF_block, exF_cond, exF_skip, runL, wantL, stepL, evL, evC, LEnv.at, putL, loadFine, loadL, cellsAt, Trk.putNew, Trk.up, Trk.touch, Trk.gives, Trk.calm, Trk.hit, opdsOf, Trk.fresh, LEnv.keep, List.map_cons, List.map_nil, nbeq, nble, nblt, ofAV, ofAVs, lenL, bin_add, bin_lss, bin_geq, natL_nat, natL_zero, natL_one, List.any_cons, List.any_nil, Bool.or_false, Bool.false_or, Bool.true_or, Bool.or_true, Bool.and_true, Bool.false_and, Bool.not_true, Bool.not_false, Nat.reduceEqDiff, decide_true, decide_false, cond_true, cond_false, List.filter_nil, Nat.reduceAdd, Nat.reduceLeDiff, reduceCtorEq, List.length_nil, List.length_cons, Nat.mul_one, eq_self, List.append_nil, List.nil_append, List.cons_append, views_pures, LV.pures, LV.pure, freeze, Nat.reduceDiv, LV.cells, allocL, List.getElem?_cons_zero, List.getElem?_cons_succ, storeL, spliceL, List.take_zero, List.take_succ_cons, List.drop_zero, List.drop_succ_cons, List.drop_nil, List.take_nil, Nat.le_refl, Nat.reduceMul, LV.scalar, List.all_cons, List.all_nil, Nat.lt_add_one, Nat.reduceLT, fillL, List.length_append, hki, h2, s0, ok, last_at, last_set, hp, c', hap, hs, envVals, hex]
    · have c' : ¬ 0 ≤ plc w (k : Int) := fun h => c (hpm.1 h)
      rw [if_neg c, List.append_cons]
      have hLM : Lst (M ++ [⟨[.int .i64 l[k].1, .int .i64 l[k].2], true⟩]) v 2 out.length (pcI out) := hL.mono fun i hi => List.getElem?_append_left (hL.lt i hi)
      obtain ⟨v3, m3, hap, hL3, _, _, _⟩ := hLM.append (x := .lst false true 2 1 [.int .i64 l[k].1, .int .i64 l[k].2]) (k := 1) (news := [.int .i64 l[k].1, .int .i64 l[k].2]) (bytes := 16) (by simp [contents, nbeq]) rfl (by omega) (by omega) rfl
      have hL3 : Lst m3 v3 2 (out ++ [l[k]]).length (pcI (out ++ [l[k]])) := by rw [snoc]; simpa using hL3
      generalize hvs : ([FL nl ex sz l, IL nl' ex' sz' w, v3, .int .i64 ((k + 1 : Nat) : Int)] : List LV) = vs
      have hvm : v3 ∈ vs := by rw [← hvs]; simp
      obtain ⟨v', M', hex, hL'⟩ := ih (k + 1) (trim M.length vs m3) v3 (out ++ [l[k]]) (by omega) (by simp; omega) (lst_trim hL3 _ _ hvm)
      refine ⟨v', M', ?_, hL'⟩
      subst hvs
      simp only [ref04_Turn.B1, exF_seq, exF_region, exF_block, exF_cond, exF_skip, runL, wantL, stepL, evL, evC, LEnv.at, putL, loadFine, loadL, cellsAt, Trk.putNew, Trk.up, Trk.touch, Trk.gives, Trk.calm, Trk.hit, opdsOf, Trk.fresh, LEnv.keep, List.map_cons, List.map_nil, nbeq, nble, nblt, ofAV, ofAVs, lenL, bin_add, bin_lss, bin_geq, natL_nat, List.any_cons, List.any_nil, Bool.or_false, Bool.false_or, Bool.true_or, Bool.or_true, Bool.and_true, Bool.false_and, Bool.not_true, Bool.not_false, Nat.reduceEqDiff, decide_true, decide_false, cond_true, cond_false, List.filter_nil, Nat.reduceAdd, Nat.reduceLeDiff, reduceCtorEq, List.length_nil, List.length_cons, eq_self, List.append_nil, List.nil_append, views_pures, LV.pures, LV.pure, freeze, Nat.reduceDiv, LV.cells, allocL, List.getElem?_cons_zero, storeL, spliceL, List.take_zero, List.take_succ_cons, List.drop_zero, List.drop_succ_cons, List.drop_nil, List.take_nil, Nat.le_refl, Nat.reduceMul, LV.scalar, List.all_cons, List.all_nil, fillL, List.length_append, hki, h2, s0, ok, last_at, last_set, hp, c', hap, hs, envVals, hex]
theorem view_lst2 {M' : LMem} {v' : LV} {n : Nat} {cs : List LV} (hL : Lst M' v' 2 n cs) (hp : LV.pures cs = true) (e : Int) : ∃ a b z ids, view 100 M' (.tup [v', .int .i64 e]) = some (.tup [.lst a b z n cs, .int .i64 e], ids) := by
  obtain ⟨a, b, z, ids, hz, _, _, hvw⟩ := hL.view hp (by omega)
  refine ⟨a, b, z, ids, ?_⟩
  by_cases hp : LV.pures [v', .int .i64 e] = true
  · have e1 := hvw 97
    have hvp : v'.pure = true := by simpa [LV.pures, LV.pure] using hp
    rw [view_pure 98 M' v' hvp] at e1
    simp only [Option.some.injEq, Prod.mk.injEq] at e1
    obtain ⟨e1, e2⟩ := e1
    rw [view_pure 98 M' _ (by simpa [LV.pure] using hp), ← e2, e1]
  · exact view_tup2 M' v' (.int .i64 e) _ ids hvw rfl (by simpa using hp)
theorem turnR_c (nl ex nl' ex' : Bool) (sz sz' : Nat) (N : Int) (l : List (Int × Int)) (w : List Int) (hl : l.length < 1000) (hw : w.length < 1000) : ∃ a b z, ∀ m,
    clF LP n_ref04_Turn [.int .i64 N, FL nl ex sz l, IL nl' ex' sz' w] m = some (.P, .tup [FL a b z (turnV N l w).1, .int .i64 (turnV N l w).2], m) := by
  have hc := fun m => checkR_c nl ex sz N l (by omega) m
  have hp : LV.pures [LV.int .i64 N, FL nl ex sz l, IL nl' ex' sz' w] = true := by simp [LV.pures, LV.pure]
  unfold turnV
  by_cases h0 : chkF N l = 0
  · rw [if_pos h0]
    obtain ⟨_, h12, _⟩ := chkF_ok h0
    have hl0 := turnR_0 nl ex nl' ex' sz sz' l h12 w hw w.length 0 (-1) (by omega) (fun _ => rfl) (by omega)
    simp only [Int.natCast_zero, List.drop_zero] at hl0
    by_cases h1 : chkW (l.length : Int) (-1) w = 0
    · rw [if_pos h1]
      rw [h1] at hl0
      obtain ⟨v', M', he, hL⟩ := turnR_1 nl ex nl' ex' sz sz' l h12 w hw l.length 0 [] (.lst true true 0 0 []) [] (by omega) rfl (Lst.nil [] 2)
      rw [List.nil_append, List.drop_zero] at hL
      simp only [Int.natCast_zero] at he
      obtain ⟨a, b, z, ids, hv⟩ := view_lst2 hL (pcI_pures _) 0
      refine ⟨a, b, z, fun m => ?_⟩
      refine call_Pv lp_ref04_Turn rfl hp (m1 := M') (v := .tup [v', .int .i64 0]) (ids := ids) ?_ hv m
      simp only [ref04_Turn, ref04_Turn.B, exF_seq, exF_region, exF_block, exF_cond, exF_ret, exF_skip, runL, wantL, stepL, evL, evC, LEnv.at, putL, loadFine, LEnv.keep, LEnv.ofFrom, List.map_cons, List.map_nil, nbeq, ofAVs, bin_neq, Nat.reduceEqDiff, decide_true, decide_false, cond_true, cond_false, Nat.reduceAdd, reduceCtorEq, eq_self, retL, resultsL, resAllL, resOfL, List.append_nil, List.nil_append, not_true_eq_false, ne_eq, hc, h0, hl0, he]
    · rw [if_neg h1]
      refine ⟨true, true, 0, fun m => ?_⟩
      refine call_P lp_ref04_Turn rfl hp (m1 := []) ?_ rfl m
      simp only [ref04_Turn, ref04_Turn.B, exF_seq, exF_region, exF_block, exF_cond, exF_ret, runL, wantL, stepL, evL, evC, LEnv.at, putL, loadFine, LEnv.keep, LEnv.ofFrom, List.map_cons, List.map_nil, nbeq, ofAVs, bin_neq, Nat.reduceEqDiff, decide_true, decide_false, cond_true, cond_false, Nat.reduceAdd, reduceCtorEq, eq_self, retL, resultsL, resAllL, resOfL, List.append_nil, List.nil_append, not_false_eq_true, ne_eq, hc, h0, hl0, h1]
      try rfl
  · rw [if_neg h0]
    refine ⟨true, true, 0, fun m => ?_⟩
    have hst := turnR_stop nl ex nl' ex' sz sz' l w (chkF N l) 0 h0
    refine call_P lp_ref04_Turn rfl hp (m1 := []) ?_ rfl m
    simp only [ref04_Turn, ref04_Turn.B, exF_seq, exF_region, exF_block, exF_cond, exF_ret, runL, wantL, stepL, evL, evC, LEnv.at, putL, loadFine, LEnv.keep, LEnv.ofFrom, List.map_cons, List.map_nil, nbeq, ofAVs, bin_neq, Nat.reduceEqDiff, decide_true, decide_false, cond_true, cond_false, Nat.reduceAdd, reduceCtorEq, eq_self, retL, resultsL, resAllL, resOfL, List.append_nil, List.nil_append, not_false_eq_true, ne_eq, hc, h0, hst]
    try rfl
end Go.Am.Ring

