/-
  What functions of chapter 04 compute, 8: the reference's best orders.
-/
import Derived.Test.YtheppipmnfjdcaaRingP2
set_option linter.unusedVariables false
set_option linter.unusedSimpArgs false
set_option maxRecDepth 10000
namespace Go.Am.Ring
open Go.Am.G

theorem rows_at (R : List (List Nat)) (i : Nat) (h : i < R.length) : (rows R)[i]? = some (rlv (ci R[i])) := by rw [List.getElem?_map, List.getElem?_eq_getElem h]; rfl
theorem rows_0 (R : List (List Nat)) (h : R ≠ []) : (rows R)[0]? = some (rlv (ci (R.headD []))) := by
  cases R with
  | nil => exact absurd rfl h
  | cons a t => rfl
theorem agn_len (P : List (Nat × Nat)) (o : List Nat) : (agn (P.map castP) (ci o)).length = contr P o := agnF_length o P 0
theorem agn_c (P : List (Nat × Nat)) (hP : P.length ≤ 12) (nl ex : Bool) (sz : Nat) (o : List Nat) (ho : o.length ≤ 6) (m : LMem) : clF LP n_ref04_against [FN nl ex sz P, rlv (ci o)] m = some (.P, RL (agn (P.map castP) (ci o)), m) :=
  against_c nl ex false false sz 1 (P.map castP) (ci o) (by simp; omega) (by simp; omega) m
theorem best_loop (P : List (Nat × Nat)) (hP : P.length ≤ 12) (nl ex nl' ex' : Bool) (sz : Nat) (l : List (List Nat)) (hl : l.length ≤ 46656) (hlen : ∀ o ∈ l, o.length ≤ 6) (j : Nat) : ∀ (i : Nat) (out : List (List Nat)) (M : LMem) (v : LV), i + j = l.length → out.length ≤ i → (∀ o ∈ out, o.length ≤ 6) → Lst M v 1 out.length (rows out) →
    ∃ v' M', exF LP ref04_best.L0 [(1, FN nl ex sz P), (5, v), (6, .lst nl' ex' 1 l.length (rows l)), (7, .int .i64 (i : Int))] M = some (.exit 0, [(5, v')], M') ∧ Lst M' v' 1 (bestS P out (l.drop i)).length (rows (bestS P out (l.drop i))) := by
  induction j with
  | zero =>
    intro i out M v hi ho hos hL
    refine ⟨v, M, ?_, by rw [List.drop_eq_nil_of_le (by omega)]; exact hL⟩
    rw [ref04_best.L0_eq]
    simp only [ref04_best.B0, exF_seq, exF_region, exF_cond, exF_exit, runL, wantL, stepL, evL, LEnv.at, putL, loadFine, LEnv.keep, List.map_cons, List.map_nil, nbeq, lenL, bin_lss, Nat.reduceEqDiff, decide_true, decide_false, cond_true, cond_false, eq_self, show ¬ ((i : Int) < (l.length : Int)) by omega]
  | succ j ih =>
    intro i out M v hi hol hos hL
    have h2 : i < l.length := by omega
    have hii : (i : Int) < (l.length : Int) := by omega
    have hw := wrap_succ (show i + 1 < 9223372036854775808 by omega)
    have hrow := rows_at l i h2
    have hlo := hlen _ (List.getElem_mem h2)
    have ha := fun m => agn_c P hP nl ex sz l[i] hlo m
    have hal := agn_len P l[i]
    rw [List.drop_eq_getElem_cons h2, bestS]
    have hcont : ∀ M, contents M 1 (.lst false true 1 1 [rlv (ci l[i])]) = some ([rlv (ci l[i])], 1) := by intro M; simp [contents, nbeq]
    have hcells : (rlv (ci l[i])).cells = some [rlv (ci l[i])] := rfl
    have hvw : ∀ m, views m [rlv (ci l[i])] = some ([rlv (ci l[i])], []) := fun m => views_pures m _ (by simp [LV.pures, LV.pure])
    have hfn : ∀ m, freeze [] m = m := freeze_nil
    by_cases he : out = []
    · subst he
      rw [if_pos rfl]
      obtain ⟨v2, M2, hap, hL2, _, _, _⟩ := hL.append (x := .lst false true 1 1 [rlv (ci l[i])]) (k := 1) (news := [rlv (ci l[i])]) (bytes := 24) (hcont M) rfl (by omega) (by simp) rfl
      obtain ⟨v', M', hex, hL'⟩ := ih (i + 1) [l[i]] M2 v2 (by omega) (by simp) (by simpa using hlo) hL2
      refine ⟨v', M', ?_, hL'⟩
      rw [ref04_best.L0_eq]
      generalize rlv (ci l[i]) = row at *
      generalize agn (P.map castP) (ci l[i]) = ag at *
      rcases hL with ⟨a, b, z, rfl, _⟩ | ⟨b, rfl, _, _, h0⟩
      · simp only [List.length_nil, List.map_nil] at hap
        simp only [ref04_best.B0, beqT, beqF, exF_seq, exF_region, exF_block, exF_cond, exF_skip, runL, wantL, stepL, evL, evC, LEnv.at, putL, loadFine, loadL, cellsAt, Trk.putNew, Trk.up, Trk.touch, Trk.gives, Trk.calm, opdsOf, Trk.fresh, LEnv.keep, List.map_cons, List.map_nil, nbeq, nble, nblt, ofAV, ofAVs, lenL, bin_add, bin_eql, bin_lss, bin_gtr, natL_nat, List.any_cons, List.any_nil, Bool.or_false, Bool.or_true, Bool.and_true, Bool.false_and, Bool.not_true, Bool.not_false, Nat.reduceEqDiff, decide_true, decide_false, cond_true, cond_false, List.filter_nil, Nat.reduceAdd, Nat.reduceLeDiff, reduceCtorEq, List.length_nil, List.length_cons, Nat.mul_one, eq_self, List.append_nil, List.nil_append, Nat.reduceDiv, Int.natCast_zero, spliceL, List.take_zero, List.take_succ_cons, List.drop_succ_cons, List.drop_nil, List.take_nil, Nat.le_refl, fillL, hii, h2, hrow, ha, hal, Int.lt_irrefl, hcells, hvw, hfn, hap, hw, hex]
      · simp at h0
    · rw [if_neg he]
      have hr0 := rows_0 out he
      have hmem : out.headD [] ∈ out := by
        cases out with
        | nil => exact absurd rfl he
        | cons a t => simp
      have hb := fun m => agn_c P hP nl ex sz (out.headD []) (hos _ hmem) m
      have hbl := agn_len P (out.headD [])
      have hpos : 0 < out.length := List.length_pos_iff.2 he
      have hpi : (0 : Int) < (out.length : Int) := by omega
      have hpn : ¬ ((out.length : Int) = 0) := by omega
      have hrl : (rows out).length = out.length := by simp
      have hmul : out.length * 1 = out.length := Nat.mul_one _
      have hcs := contr P (out.headD [])
      by_cases c1 : contr P l[i] < contr P (out.headD [])
      · rw [if_pos c1]
        have c1' : ((contr P l[i] : Nat) : Int) < ((contr P (out.headD []) : Nat) : Int) := by omega
        obtain ⟨v2, M2, hap, hL2, _, _, _⟩ := (Lst.nil M 1).append (x := .lst false true 1 1 [rlv (ci l[i])]) (k := 1) (news := [rlv (ci l[i])]) (bytes := 24) (hcont M) rfl (by omega) (by simp) rfl
        obtain ⟨v', M', hex, hL'⟩ := ih (i + 1) [l[i]] M2 v2 (by omega) (by simp) (by simpa using hlo) hL2
        refine ⟨v', M', ?_, hL'⟩
        rw [ref04_best.L0_eq]
        generalize rlv (ci l[i]) = row at *
        generalize agn (P.map castP) (ci l[i]) = ag at *
        generalize agn (P.map castP) (ci (out.headD [])) = ag0 at *
        generalize rlv (ci (out.headD [])) = row0 at *
        rcases hL with ⟨a, b, z, rfl, _⟩ | ⟨b, rfl, hbb, _, _⟩
        · simp only [ref04_best.B0, beqT, beqF, exF_seq, exF_region, exF_block, exF_cond, exF_skip, runL, wantL, stepL, evL, evC, LEnv.at, putL, loadFine, loadL, cellsAt, Trk.putNew, Trk.up, Trk.touch, Trk.gives, Trk.calm, opdsOf, Trk.fresh, LEnv.keep, List.map_cons, List.map_nil, nbeq, nble, nblt, ofAV, ofAVs, lenL, bin_add, bin_eql, bin_lss, bin_gtr, natL_nat, natL_zero, List.any_cons, List.any_nil, Bool.or_false, Bool.or_true, Bool.and_true, Bool.false_and, Bool.not_true, Bool.not_false, Nat.reduceEqDiff, decide_true, decide_false, cond_true, cond_false, List.filter_nil, Nat.reduceAdd, Nat.reduceLeDiff, reduceCtorEq, List.length_nil, List.length_cons, Nat.mul_one, eq_self, List.append_nil, List.nil_append, Nat.reduceDiv, Int.natCast_zero, spliceL, List.take_zero, List.take_succ_cons, List.drop_zero, List.drop_succ_cons, List.drop_nil, List.take_nil, Nat.le_refl, fillL, hii, h2, hrow, ha, hal, hpos, hpi, hr0, hb, hbl, c1', hcells, hvw, hfn, hap, hw, hex]
        · rw [hmul] at *
          simp only [ref04_best.B0, beqT, beqF, exF_seq, exF_region, exF_block, exF_cond, exF_skip, runL, wantL, stepL, evL, evC, LEnv.at, putL, loadFine, loadL, cellsAt, Trk.putNew, Trk.up, Trk.touch, Trk.gives, Trk.calm, Trk.hit, opdsOf, Trk.fresh, LEnv.keep, List.map_cons, List.map_nil, nbeq, nble, nblt, ofAV, ofAVs, lenL, bin_add, bin_eql, bin_lss, bin_gtr, natL_nat, natL_zero, List.any_cons, List.any_nil, Bool.or_false, Bool.false_or, Bool.true_or, Bool.or_true, Bool.and_true, Bool.false_and, Bool.not_true, Bool.not_false, Nat.reduceEqDiff, decide_true, decide_false, cond_true, cond_false, List.filter_nil, Nat.reduceAdd, Nat.reduceLeDiff, reduceCtorEq, List.length_nil, List.length_cons, Nat.mul_one, eq_self, List.append_nil, List.nil_append, Nat.reduceDiv, Int.natCast_zero, spliceL, List.take_zero, List.take_succ_cons, List.drop_zero, List.drop_succ_cons, List.drop_nil, List.take_nil, Nat.le_refl, fillL, hii, h2, hrow, ha, hal, hpos, hpi, hbb, hrl, Nat.zero_add, hr0, hb, hbl, c1', hcells, hvw, hfn, hap, hw, hex]
      · rw [if_neg c1]
        have c1' : ¬ ((contr P l[i] : Nat) : Int) < ((contr P (out.headD []) : Nat) : Int) := by omega
        by_cases c2 : contr P l[i] = contr P (out.headD [])
        · rw [if_pos c2]
          have c2' : ((contr P l[i] : Nat) : Int) = ((contr P (out.headD []) : Nat) : Int) := by omega
          obtain ⟨v2, M2, hap, hL2, _, _, _⟩ := hL.append (x := .lst false true 1 1 [rlv (ci l[i])]) (k := 1) (news := [rlv (ci l[i])]) (bytes := 24) (hcont M) rfl (by omega) (by omega) rfl
          have hL2 : Lst M2 v2 1 (out ++ [l[i]]).length (rows (out ++ [l[i]])) := by simpa using hL2
          obtain ⟨v', M', hex, hL'⟩ := ih (i + 1) (out ++ [l[i]]) M2 v2 (by omega) (by simp; omega) (by
            intro o ho
            rcases List.mem_append.1 ho with ho | ho
            · exact hos o ho
            · rw [List.mem_singleton.1 ho]; exact hlo) hL2
          refine ⟨v', M', ?_, hL'⟩
          rw [ref04_best.L0_eq]
          generalize rlv (ci l[i]) = row at *
          generalize agn (P.map castP) (ci l[i]) = ag at *
          generalize agn (P.map castP) (ci (out.headD [])) = ag0 at *
          generalize rlv (ci (out.headD [])) = row0 at *
          rw [c2] at hal
          rcases hL with ⟨a, b, z, rfl, _⟩ | ⟨b, rfl, hbb, _, _⟩
          · simp only [ref04_best.B0, beqT, beqF, exF_seq, exF_region, exF_block, exF_cond, exF_skip, runL, wantL, stepL, evL, evC, LEnv.at, putL, loadFine, loadL, cellsAt, Trk.putNew, Trk.up, Trk.touch, Trk.gives, Trk.calm, opdsOf, Trk.fresh, LEnv.keep, List.map_cons, List.map_nil, nbeq, nble, nblt, ofAV, ofAVs, lenL, bin_add, bin_eql, bin_lss, bin_gtr, natL_nat, natL_zero, List.any_cons, List.any_nil, Bool.or_false, Bool.or_true, Bool.and_true, Bool.false_and, Bool.not_true, Bool.not_false, Nat.reduceEqDiff, decide_true, decide_false, cond_true, cond_false, List.filter_nil, Nat.reduceAdd, Nat.reduceLeDiff, reduceCtorEq, List.length_nil, List.length_cons, Nat.mul_one, eq_self, List.append_nil, List.nil_append, Nat.reduceDiv, spliceL, List.take_zero, List.take_succ_cons, List.drop_zero, List.drop_succ_cons, List.drop_nil, List.take_nil, Nat.le_refl, fillL, hii, h2, hrow, ha, hal, hpos, hpi, hpn, hr0, hb, hbl, Int.lt_irrefl, hcells, hvw, hfn, hap, hw, hex]
          · rw [hmul] at *
            simp only [ref04_best.B0, beqT, beqF, exF_seq, exF_region, exF_block, exF_cond, exF_skip, runL, wantL, stepL, evL, evC, LEnv.at, putL, loadFine, loadL, cellsAt, Trk.putNew, Trk.up, Trk.touch, Trk.gives, Trk.calm, Trk.hit, opdsOf, Trk.fresh, LEnv.keep, List.map_cons, List.map_nil, nbeq, nble, nblt, ofAV, ofAVs, lenL, bin_add, bin_eql, bin_lss, bin_gtr, natL_nat, natL_zero, List.any_cons, List.any_nil, Bool.or_false, Bool.false_or, Bool.true_or, Bool.or_true, Bool.and_true, Bool.false_and, Bool.not_true, Bool.not_false, Nat.reduceEqDiff, decide_true, decide_false, cond_true, cond_false, List.filter_nil, Nat.reduceAdd, Nat.reduceLeDiff, reduceCtorEq, List.length_nil, List.length_cons, Nat.mul_one, eq_self, List.append_nil, List.nil_append, Nat.reduceDiv, spliceL, List.take_zero, List.take_succ_cons, List.drop_zero, List.drop_succ_cons, List.drop_nil, List.take_nil, Nat.le_refl, fillL, hii, h2, hrow, ha, hal, hpos, hpi, hpn, hbb, hrl, Nat.zero_add, hr0, hb, hbl, Int.lt_irrefl, hcells, hvw, hfn, hap, hw, hex]
        · rw [if_neg c2]
          have c2' : ¬ ((contr P l[i] : Nat) : Int) = ((contr P (out.headD []) : Nat) : Int) := by omega
          obtain ⟨v', M', hex, hL'⟩ := ih (i + 1) out M v (by omega) (by omega) hos hL
          refine ⟨v', M', ?_, hL'⟩
          rw [ref04_best.L0_eq]
          generalize rlv (ci l[i]) = row at *
          generalize agn (P.map castP) (ci l[i]) = ag at *
          generalize agn (P.map castP) (ci (out.headD [])) = ag0 at *
          generalize rlv (ci (out.headD [])) = row0 at *
          rcases hL with ⟨a, b, z, rfl, _⟩ | ⟨b, rfl, hbb, _, _⟩
          · simp only [ref04_best.B0, beqT, beqF, exF_seq, exF_region, exF_block, exF_cond, exF_skip, runL, wantL, stepL, evL, evC, LEnv.at, putL, loadFine, loadL, cellsAt, Trk.putNew, Trk.up, Trk.touch, Trk.gives, Trk.calm, opdsOf, Trk.fresh, LEnv.keep, List.map_cons, List.map_nil, nbeq, nble, nblt, ofAVs, lenL, bin_add, bin_eql, bin_lss, bin_gtr, natL_nat, natL_zero, List.any_cons, List.any_nil, Bool.or_false, Bool.or_true, Bool.and_true, Bool.false_and, Bool.not_true, Bool.not_false, Nat.reduceEqDiff, decide_true, decide_false, cond_true, cond_false, List.filter_nil, Nat.reduceAdd, Nat.reduceLeDiff, Nat.mul_one, eq_self, List.append_nil, List.nil_append, List.drop_zero, hii, h2, hrow, ha, hal, hpos, hpi, hpn, hr0, hb, hbl, c1', c2', hw, hex]
          · rw [hmul] at *
            simp only [ref04_best.B0, beqT, beqF, exF_seq, exF_region, exF_block, exF_cond, exF_skip, runL, wantL, stepL, evL, evC, LEnv.at, putL, loadFine, loadL, cellsAt, Trk.putNew, Trk.up, Trk.touch, Trk.gives, Trk.calm, Trk.hit, opdsOf, Trk.fresh, LEnv.keep, List.map_cons, List.map_nil, nbeq, nble, nblt, ofAVs, lenL, bin_add, bin_eql, bin_lss, bin_gtr, natL_nat, natL_zero, List.any_cons, List.any_nil, Bool.or_false, Bool.false_or, Bool.true_or, Bool.or_true, Bool.and_true, Bool.false_and, Bool.not_true, Bool.not_false, Nat.reduceEqDiff, decide_true, decide_false, cond_true, cond_false, List.filter_nil, Nat.reduceAdd, Nat.reduceLeDiff, Nat.mul_one, eq_self, List.append_nil, List.nil_append, List.drop_zero, hii, h2, hrow, ha, hal, hpos, hpi, hpn, hbb, hrl, Nat.zero_add, hr0, hb, hbl, c1', c2', hw, hex]

/-- The best orders, ascending. -/
def bestO (P : List (Nat × Nat)) (n : Nat) : List (List Nat) := (ords n).filter fun o => decide (contr P o = (fwD anyM P n 0).1)
theorem bestS_all {n : Nat} {P : List (Nat × Nat)} (G : Good n P) : bestS P [] (ords n) = bestO P n := by
  have h := fw_min anyM G
  have hne := ords_ne n n 0 (leftN_none n)
  obtain ⟨o, ho, he⟩ := List.mem_map.1 (h.mem (by simpa using hne))
  have := bestS_min P (fwD anyM P n 0).1 (ords n) [] ⟨(fwD anyM P n 0).1, by simp, Nat.le_refl _, .inl rfl⟩ (fun o ho => h.le _ (List.mem_map.2 ⟨o, ho, rfl⟩)) (fun _ => ⟨o, ho, he⟩) (.inr hne)
  rw [this, List.nil_append]; rfl
theorem bestO_ne {n : Nat} {P : List (Nat × Nat)} (G : Good n P) : bestO P n ≠ [] := by
  have h := fw_min anyM G
  have hne := ords_ne n n 0 (leftN_none n)
  obtain ⟨o, ho, he⟩ := List.mem_map.1 (h.mem (by simpa using hne))
  intro c
  have : o ∈ bestO P n := List.mem_filter.2 ⟨ho, by simpa using he⟩
  rw [c] at this; simp at this
theorem bestO_mem {n : Nat} {P : List (Nat × Nat)} {o : List Nat} (h : o ∈ bestO P n) : o ∈ ords n ∧ contr P o = (fwD anyM P n 0).1 := by
  have := List.mem_filter.1 h
  exact ⟨this.1, by simpa using this.2⟩
theorem bestO_len {n : Nat} {P : List (Nat × Nat)} (G : Good n P) : (bestO P n).length = (fwD anyM P n 0).2 := by
  have h := fw_min anyM G
  rw [h.cnt, List.count_eq_countP, List.countP_map]
  unfold bestO
  rw [← List.countP_eq_length_filter]
  apply List.countP_congr
  intro o _
  simp [Function.comp]
theorem best_c (n : Nat) (P : List (Nat × Nat)) (G : Good n P) (nl ex : Bool) (sz : Nat) : ∃ a b, ∀ m, clF LP n_ref04_best [.int .i64 (n : Int), FN nl ex sz P] m = some (.P, .lst a b 1 (bestO P n).length (rows (bestO P n)), m) := by
  have hn : 1 ≤ n ∧ n ≤ 6 := ⟨G.pos, G.le6⟩
  obtain ⟨x, y, ho⟩ := ordersN_c n hn
  obtain ⟨v', M', he, hL⟩ := best_loop P G.le12 nl ex x y sz (ords n) (ords_len n hn.2) (fun o ho => by rw [(ords_ok ho).2.1]; exact hn.2) (ords n).length 0 [] [] (.lst true true 0 0 []) (by omega) (by simp) (by simp) (Lst.nil [] 1)
  rw [List.drop_zero, bestS_all G] at hL
  obtain ⟨a, b, c, ids, hz, _, _, hvw⟩ := hL.view (rows_pures _) (by omega)
  have hpos : (bestO P n).length ≠ 0 := by simpa using bestO_ne G
  obtain rfl : c = 1 := by rcases hz with h | h; exact absurd h hpos; exact h
  refine ⟨a, b, fun m => ?_⟩
  refine call_Pv lp_ref04_best rfl (by simp [LV.pures, LV.pure]) (m1 := M') (v := v') (ids := ids) ?_ (hvw 97) m
  simp only [Int.natCast_zero] at he
  simp only [ref04_best, ref04_best.B, exF_seq, exF_region, exF_block, exF_ret, runL, wantL, stepL, evL, evC, LEnv.at, putL, loadFine, LEnv.keep, LEnv.ofFrom, List.map_cons, List.map_nil, nbeq, ofAVs, Nat.reduceEqDiff, decide_true, decide_false, cond_true, cond_false, Nat.reduceAdd, reduceCtorEq, eq_self, retL, resultsL, resAllL, resOfL, List.append_nil, List.nil_append, ho, he]
end Go.Am.Ring

