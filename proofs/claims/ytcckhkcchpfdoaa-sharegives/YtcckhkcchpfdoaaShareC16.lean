/-
  What functions of chapter 07 compute, 16: things by turns.
-/
import Derived.Test.YtcckhkcchpfdoaaShareC13
set_option linter.unusedVariables false
set_option linter.unusedSimpArgs false
set_option maxRecDepth 10000
namespace Go.Am
theorem view_slp (m : LMem) (i : Nat) (o : List Int) (b : Bool) (e : Int) (h : m[i]? = some ⟨o.map (LV.int .i64), b⟩) : view 40 m (.tup [.sl i 0 o.length o.length 0 1 o.length, .int .i64 e]) = some (.tup [IL false true 1 o, .int .i64 e], [i]) := by
  have h2 : ((o.map (LV.int .i64)).drop 0).take (o.length * 1) = o.map (LV.int .i64) := by rw [List.drop_zero, List.take_of_length_le (by simp)]
  have v1 : ∀ k, view (k + 3) m (.sl i 0 o.length o.length 0 1 o.length) = some (IL false true 1 o, [i]) := fun k => by
    simp only [view, h, h2, viewL_pures _ _ _ (pures_int .i64 o)]
    simp [nbeq, nble]
  have hnp : LV.pures [.sl i 0 o.length o.length 0 1 o.length, .int .i64 e] = false := by simp [LV.pures, LV.pure]
  rw [view.eq_def]
  simp only
  rw [viewL.eq_def]
  simp only [hnp, cond_false]
  rw [viewC.eq_def]
  simp only [v1 34]
  rw [viewC.eq_def]
  simp only [view_pure 34 _ (.int .i64 e) rfl]
  rw [viewC.eq_def]
  rfl
namespace Share
def tstep (V : List (List Int)) (o : List Int) (w : Int) : List Int := o.set (pk (V.getD w.toNat []) o 0 (0, -1)).1 w
def trn (V : List (List Int)) (ord : List Int) : Nat → Nat → List Int → List Int
  | 0, _, o => o
  | n + 1, t, o => trn V ord n (t + 1) (tstep V o (ord.getD (t % ord.length) 0))
theorem tstep_length (V : List (List Int)) (o : List Int) (w : Int) : (tstep V o w).length = o.length := by simp [tstep]
theorem trn_length (V : List (List Int)) (ord : List Int) (n : Nat) : ∀ (t : Nat) (o : List Int), (trn V ord n t o).length = o.length := by
  induction n with
  | zero => intro t o; rfl
  | succ n ih => intro t o; rw [trn, ih, tstep_length]
/-- Values that are checked, and numbers of finders. -/
structure VOk (rs : List Row) (L : Nat) : Prop where
  pos : 0 < rs.length
  le4 : rs.length ≤ 4
  len : ∀ i (h : i < rs.length), rs[i].l.length = L
  ok : ∀ i (h : i < rs.length), Ok20 rs[i].l
  le6 : L ≤ 6
theorem vok_of {rs : List Row} (h : chkV (vals rs) = 0) : VOk rs ((vals rs).getD 0 []).length := by
  obtain ⟨k1, k2, k3, k4⟩ := chkV_ok h
  rw [vals_length] at k1 k2
  have hrow : ∀ i (h : i < rs.length), rs[i].l ∈ vals rs := fun i h => List.mem_map.2 ⟨rs[i], List.getElem_mem h, rfl⟩
  exact ⟨k1, k2, fun i hi => (k4 _ (hrow i hi)).1, fun i hi => (k4 _ (hrow i hi)).2, by omega⟩
theorem turnP_outer (nl ex nl' ex' : Bool) (sz : Nat) {rs : List Row} {L : Nat} (D : VOk rs L) (ord : List Int) (hol : 0 < ord.length) (hoq : ord.length < 1000000) (hor : ∀ x ∈ ord, 0 ≤ x ∧ x < rs.length) (n : Nat) : ∀ (t : Nat) (o : List Int), t + n = L → o.length = L →
    exF LP share_Turns.L2 [(0, VL nl ex sz rs), (1, IL nl' ex' 1 ord), (9, .ptr 2 0 2), (53, .int .i64 (L : Int)), (54, .int .i64 (t : Int))] (TM (VL nl ex sz rs) o) =
      some (.exit 4, [(9, .ptr 2 0 2)], TM (VL nl ex sz rs) (trn (vals rs) ord n t o)) := by
  have h6 := D.le6
  induction n with
  | zero =>
    intro t o ht ho
    rw [share_Turns.L2_eq]
    simp only [share_Turns.B2, beqT, beqF, exF_seq, exF_region, exF_block, exF_cond, exF_ret, exF_exit, exF_skip, runL, wantL, stepL, evL, LEnv.at, putL, loadFine, loadL, cellsAt, Trk.putNew, Trk.up, Trk.touch, Trk.gives, Trk.calm, Trk.hit, opdsOf, Trk.fresh, LEnv.keep, LEnv.ofFrom, List.map_cons, List.map_nil, nbeq, nble, nblt, ofAV, ofAVs, lenL, bin_add, bin_sub, bin_mul, bin_eql, bin_neq, bin_lss, bin_leq, bin_gtr, bin_geq, natL_nat, natL_zero, natL_one, natL_two, Nat.zero_mul, List.any_cons, List.any_nil, Bool.or_false, Bool.false_or, Bool.true_or, Bool.or_true, Bool.and_true, Bool.true_and, Bool.and_false, Bool.false_and, Bool.not_true, Bool.not_false, Nat.reduceBEq, Nat.reduceEqDiff, decide_true, decide_false, cond_true, cond_false, List.filter_nil, List.filter_cons, Nat.reduceAdd, Nat.reduceLeDiff, reduceCtorEq, List.length_nil, List.length_cons, Nat.mul_one, if_true, if_false, Bool.false_eq_true, eq_self, and_true, true_and, retL, resultsL, resAllL, resOfL, List.append_nil, List.nil_append, List.cons_append, true_or, or_true, false_or, or_false, false_and, and_false, not_true_eq_false, not_false_eq_true, ne_eq, unL, trim_nil, views_pures, LV.pures, LV.pure, freeze, Nat.reduceDiv, Int.reduceEq, Int.reduceLT, Int.reduceLE, Int.natCast_zero, LV.cells, allocL, List.getElem?_cons_zero, List.getElem?_cons_succ, storeL, spliceL, List.take_zero, List.take_succ_cons, List.drop_zero, List.drop_succ_cons, List.drop_nil, List.take_nil, Nat.le_refl, Nat.reduceMul, List.set_cons_zero, List.set_cons_succ, LV.scalar, List.all_cons, List.all_nil, Nat.lt_add_one, Nat.zero_lt_one, Nat.lt_irrefl, fillL, List.length_append, foldIntL, kind_beq, pures_int, solids_int, plains_int, unders_int, scalars_int, show ¬ ((t : Int) < (L : Int)) by omega, trn]
  | succ n ih =>
    intro t o ht ho
    have ht2 : (t : Int) < (L : Int) := by omega
    have hm : t % ord.length < ord.length := Nat.mod_lt _ hol
    have hne : ((ord.length : Nat) : Int) ≠ 0 := by omega
    obtain ⟨w1, w2⟩ := hor _ (List.getElem_mem hm)
    obtain ⟨w, hw⟩ := Int.eq_ofNat_of_zero_le w1
    have hw2 : w < rs.length := by omega
    have hg : ord.getD (t % ord.length) 0 = (w : Int) := by rw [← hw]; simp [List.getD_eq_getElem?_getD, hm]
    have hin := turnP_inner nl ex nl' ex' sz rs ord w hw2 o (by rw [D.len w hw2, ho]) (by omega) (L : Int) (w : Int) (t : Int) o.length 0 (0, -1) (by omega)
    have hb := pk_lt rs[w].l o 0 (0, -1) o.length (by omega) (by simp; omega)
    rw [trn, hg]
    unfold tstep
    rw [Int.toNat_natCast, vals_at rs w hw2]
    simp only [Int.natCast_zero, List.drop_zero] at hin
    have hrl : rs[w].l.length = o.length := by rw [D.len w hw2, ho]
    generalize (pk rs[w].l o 0 (0, -1)).1 = b at *
    have ih := ih (t + 1) (o.set b w) (by omega) (by simpa using ho)
    have hbL : b < L := by omega
    have hs : (o.set b (w : Int)).length = L := by simp [ho]
    simp only [TM, hs] at ih
    simp only [TM, ho] at hin
    rw [ho] at hrl
    rw [share_Turns.L2_eq]
    simp only [TM, share_Turns.B2, beqT, beqF, exF_seq, exF_region, exF_block, exF_cond, exF_ret, exF_exit, exF_skip, runL, wantL, stepL, evL, LEnv.at, putL, loadFine, loadL, cellsAt, Trk.putNew, Trk.up, Trk.touch, Trk.gives, Trk.calm, Trk.hit, opdsOf, Trk.fresh, LEnv.keep, LEnv.ofFrom, List.map_cons, List.map_nil, nbeq, nble, nblt, ofAV, ofAVs, lenL, bin_add, bin_sub, bin_mul, bin_eql, bin_neq, bin_lss, bin_leq, bin_gtr, bin_geq, natL_nat, natL_zero, natL_one, natL_two, Nat.zero_mul, List.any_cons, List.any_nil, Bool.or_false, Bool.false_or, Bool.true_or, Bool.or_true, Bool.and_true, Bool.true_and, Bool.and_false, Bool.false_and, Bool.not_true, Bool.not_false, Nat.reduceBEq, Nat.reduceEqDiff, decide_true, decide_false, cond_true, cond_false, List.filter_nil, List.filter_cons, Nat.reduceAdd, Nat.reduceLeDiff, reduceCtorEq, List.length_nil, List.length_cons, Nat.mul_one, if_true, if_false, Bool.false_eq_true, eq_self, and_true, true_and, retL, resultsL, resAllL, resOfL, List.append_nil, List.nil_append, List.cons_append, true_or, or_true, false_or, or_false, false_and, and_false, not_true_eq_false, not_false_eq_true, ne_eq, unL, trim_nil, views_pures, LV.pures, LV.pure, freeze, Nat.reduceDiv, Int.reduceEq, Int.reduceLT, Int.reduceLE, Int.natCast_zero, LV.cells, allocL, List.getElem?_cons_zero, List.getElem?_cons_succ, storeL, spliceL, List.take_zero, List.take_succ_cons, List.drop_zero, List.drop_succ_cons, List.drop_nil, List.take_nil, Nat.le_refl, Nat.reduceMul, List.set_cons_zero, List.set_cons_succ, LV.scalar, List.all_cons, List.all_nil, Nat.lt_add_one, Nat.zero_lt_one, Nat.lt_irrefl, fillL, List.length_append, foldIntL, kind_beq, pures_int, solids_int, plains_int, unders_int, scalars_int, ht2, bin_rem _ _ _ hne, tmod_nat, hm, int_at _ _ _ hm, hw, hw2, row_at _ _ hw2, hrl, hin, ho, Nat.zero_add, hb, hbL, List.length_map, set_int _ _ _ _ hb, show b + 1 ≤ L by omega, wrap_succ (show t + 1 < 9223372036854775808 by omega), ih]

theorem turnR_outer (nl ex nl' ex' : Bool) (sz : Nat) {rs : List Row} {L : Nat} (D : VOk rs L) (ord : List Int) (hol : 0 < ord.length) (hoq : ord.length < 1000000) (hor : ∀ x ∈ ord, 0 ≤ x ∧ x < rs.length) (n : Nat) : ∀ (t : Nat) (o : List Int), t + n = L → o.length = L → (∀ x ∈ o, -1 ≤ x) → o.count (-1) = n →
    exF LP ref07_Turns.L3 [(0, VL nl ex sz rs), (1, IL nl' ex' 1 ord), (8, SLo 0 L), (10, .int .i64 (t : Int))] [⟨o.map (LV.int .i64), true⟩] =
      some (.exit 4, [(8, SLo 0 L)], [⟨(trn (vals rs) ord n t o).map (LV.int .i64), true⟩]) := by
  have h6 := D.le6
  induction n with
  | zero =>
    intro t o ht ho hg hc
    rw [ref07_Turns.L3_eq]
    simp only [ref07_Turns.B3, beqT, beqF, exF_seq, exF_region, exF_block, exF_cond, exF_ret, exF_exit, exF_skip, runL, wantL, stepL, evL, LEnv.at, putL, loadFine, loadL, cellsAt, Trk.putNew, Trk.up, Trk.touch, Trk.gives, Trk.calm, Trk.hit, opdsOf, Trk.fresh, LEnv.keep, LEnv.ofFrom, List.map_cons, List.map_nil, nbeq, nble, nblt, ofAV, ofAVs, lenL, bin_add, bin_sub, bin_mul, bin_eql, bin_neq, bin_lss, bin_leq, bin_gtr, bin_geq, natL_nat, natL_zero, natL_one, natL_two, Nat.zero_mul, List.any_cons, List.any_nil, Bool.or_false, Bool.false_or, Bool.true_or, Bool.or_true, Bool.and_true, Bool.true_and, Bool.and_false, Bool.false_and, Bool.not_true, Bool.not_false, Nat.reduceBEq, Nat.reduceEqDiff, decide_true, decide_false, cond_true, cond_false, List.filter_nil, List.filter_cons, Nat.reduceAdd, Nat.reduceLeDiff, reduceCtorEq, List.length_nil, List.length_cons, Nat.mul_one, if_true, if_false, Bool.false_eq_true, eq_self, and_true, true_and, retL, resultsL, resAllL, resOfL, List.append_nil, List.nil_append, List.cons_append, true_or, or_true, false_or, or_false, false_and, and_false, not_true_eq_false, not_false_eq_true, ne_eq, unL, trim_nil, views_pures, LV.pures, LV.pure, freeze, Nat.reduceDiv, Int.reduceEq, Int.reduceLT, Int.reduceLE, Int.natCast_zero, LV.cells, allocL, List.getElem?_cons_zero, List.getElem?_cons_succ, storeL, spliceL, List.take_zero, List.take_succ_cons, List.drop_zero, List.drop_succ_cons, List.drop_nil, List.take_nil, Nat.le_refl, Nat.reduceMul, List.set_cons_zero, List.set_cons_succ, LV.scalar, List.all_cons, List.all_nil, Nat.lt_add_one, Nat.zero_lt_one, Nat.lt_irrefl, fillL, List.length_append, foldIntL, kind_beq, pures_int, solids_int, plains_int, unders_int, scalars_int, show ¬ ((t : Int) < (L : Int)) by omega, trn]
  | succ n ih =>
    intro t o ht ho hge hcn
    have ht2 : (t : Int) < (L : Int) := by omega
    have hm : t % ord.length < ord.length := Nat.mod_lt _ hol
    have hne : ((ord.length : Nat) : Int) ≠ 0 := by omega
    obtain ⟨w1, w2⟩ := hor _ (List.getElem_mem hm)
    obtain ⟨w, hw⟩ := Int.eq_ofNat_of_zero_le w1
    have hw2 : w < rs.length := by omega
    have hg : ord.getD (t % ord.length) 0 = (w : Int) := by rw [← hw]; simp [List.getD_eq_getElem?_getD, hm]
    have hrl : rs[w].l.length = o.length := by rw [D.len w hw2, ho]
    have hin := turnR_inner nl ex nl' ex' sz rs ord w hw2 o hrl.symm (by omega) (D.ok w hw2) hge (t : Int) o.length 0 (0, -1) (by omega) (.inl ⟨rfl, fun j hj => by omega⟩)
    have hb := pk_lt rs[w].l o 0 (0, -1) o.length (by omega) (by simp; omega)
    have hok := pk_ok rs[w].l o hrl.symm (D.ok w hw2) o.length 0 (0, -1) (by omega) (.inl ⟨rfl, fun j hj => by omega⟩)
    rw [trn, hg]
    unfold tstep
    rw [Int.toNat_natCast, vals_at rs w hw2]
    simp only [Int.natCast_zero, List.drop_zero] at hin hok
    have hmem : (-1 : Int) ∈ o := List.count_pos_iff.1 (by omega)
    have hfin : bI (pk rs[w].l o 0 (0, -1)) = ((pk rs[w].l o 0 (0, -1)).1 : Int) ∧ o.getD (pk rs[w].l o 0 (0, -1)).1 0 = -1 := by
      rcases hok with ⟨e1, e2⟩ | ⟨e1, e2, e3, e4⟩
      · obtain ⟨j, hj, hj2⟩ := List.getElem_of_mem hmem
        exact absurd (by simp [List.getD_eq_getElem?_getD, hj, hj2]) (e2 j hj)
      · exact ⟨by unfold bI; rw [if_neg (by omega)], e4⟩
    obtain ⟨hf1, hf2⟩ := hfin
    rw [hf1, show bI (0, -1) = -1 from rfl] at hin
    generalize (pk rs[w].l o 0 (0, -1)).1 = b at *
    have hf3 : o[b] = -1 := by rw [← hf2]; simp [List.getD_eq_getElem?_getD, hb]
    have ih := ih (t + 1) (o.set b w) (by omega) (by simpa using ho) (by
      intro x hx
      rcases List.mem_or_eq_of_mem_set hx with c | c
      · exact hge x c
      · omega) (by
      rw [List.count_set hb, hf3, hcn]
      simp)
    have hbL : b < L := by omega
    rw [ho] at hin hrl
    rw [ref07_Turns.L3_eq]
    simp only [ref07_Turns.B3, beqT, beqF, exF_seq, exF_region, exF_block, exF_cond, exF_ret, exF_exit, exF_skip, runL, wantL, stepL, evL, LEnv.at, putL, loadFine, loadL, cellsAt, Trk.putNew, Trk.up, Trk.touch, Trk.gives, Trk.calm, Trk.hit, opdsOf, Trk.fresh, LEnv.keep, LEnv.ofFrom, List.map_cons, List.map_nil, nbeq, nble, nblt, ofAV, ofAVs, lenL, bin_add, bin_sub, bin_mul, bin_eql, bin_neq, bin_lss, bin_leq, bin_gtr, bin_geq, natL_nat, natL_zero, natL_one, natL_two, Nat.zero_mul, List.any_cons, List.any_nil, Bool.or_false, Bool.false_or, Bool.true_or, Bool.or_true, Bool.and_true, Bool.true_and, Bool.and_false, Bool.false_and, Bool.not_true, Bool.not_false, Nat.reduceBEq, Nat.reduceEqDiff, decide_true, decide_false, cond_true, cond_false, List.filter_nil, List.filter_cons, Nat.reduceAdd, Nat.reduceLeDiff, reduceCtorEq, List.length_nil, List.length_cons, Nat.mul_one, if_true, if_false, Bool.false_eq_true, eq_self, and_true, true_and, retL, resultsL, resAllL, resOfL, List.append_nil, List.nil_append, List.cons_append, true_or, or_true, false_or, or_false, false_and, and_false, not_true_eq_false, not_false_eq_true, ne_eq, unL, trim_nil, views_pures, LV.pures, LV.pure, freeze, Nat.reduceDiv, Int.reduceEq, Int.reduceLT, Int.reduceLE, Int.natCast_zero, LV.cells, allocL, List.getElem?_cons_zero, List.getElem?_cons_succ, storeL, spliceL, List.take_zero, List.take_succ_cons, List.drop_zero, List.drop_succ_cons, List.drop_nil, List.take_nil, Nat.le_refl, Nat.reduceMul, List.set_cons_zero, List.set_cons_succ, LV.scalar, List.all_cons, List.all_nil, Nat.lt_add_one, Nat.zero_lt_one, Nat.lt_irrefl, fillL, List.length_append, foldIntL, kind_beq, pures_int, solids_int, plains_int, unders_int, scalars_int, ht2, bin_rem _ _ _ hne, tmod_nat, hm, int_at _ _ _ hm, hw, hw2, row_at _ _ hw2, hrl, hin, ho, Nat.zero_add, hb, hbL, List.length_map, set_int _ _ _ _ hb, show b + 1 ≤ L by omega, wrap_succ (show t + 1 < 9223372036854775808 by omega), ih]
theorem zeros_int (n : Nat) : zerosL [.int .i64 0] n = (List.replicate n (0 : Int)).map (LV.int .i64) := by
  unfold zerosL
  apply List.ext_getElem (by simp)
  intro i h1 h2
  simp [Nat.mod_one]
theorem turnR_fill (nl ex nl' ex' : Bool) (sz sz' : Nat) (rs : List Row) (ord : List Int) (L : Nat) (hL : L ≤ 6) (n : Nat) : ∀ (k : Nat) (o : List Int), k + n = L → o.length = L →
    exF LP ref07_Turns.L1 [(0, VL nl ex sz rs), (1, IL nl' ex' sz' ord), (8, SLo 0 L), (9, .int .i64 (k : Int))] [⟨o.map (LV.int .i64), true⟩] =
      some (.exit 2, [(0, VL nl ex sz rs), (1, IL nl' ex' sz' ord), (8, SLo 0 L)], [⟨(o.take k ++ nones n).map (LV.int .i64), true⟩]) := by
  induction n with
  | zero =>
    intro k o hk ho
    rw [ref07_Turns.L1_eq]
    simp only [ref07_Turns.B1, beqT, beqF, exF_seq, exF_region, exF_block, exF_cond, exF_ret, exF_exit, exF_skip, runL, wantL, stepL, evL, LEnv.at, putL, loadFine, loadL, cellsAt, Trk.putNew, Trk.up, Trk.touch, Trk.gives, Trk.calm, Trk.hit, opdsOf, Trk.fresh, LEnv.keep, LEnv.ofFrom, List.map_cons, List.map_nil, nbeq, nble, nblt, ofAV, ofAVs, lenL, bin_add, bin_sub, bin_mul, bin_eql, bin_neq, bin_lss, bin_leq, bin_gtr, bin_geq, natL_nat, natL_zero, natL_one, natL_two, Nat.zero_mul, List.any_cons, List.any_nil, Bool.or_false, Bool.false_or, Bool.true_or, Bool.or_true, Bool.and_true, Bool.true_and, Bool.and_false, Bool.false_and, Bool.not_true, Bool.not_false, Nat.reduceBEq, Nat.reduceEqDiff, decide_true, decide_false, cond_true, cond_false, List.filter_nil, List.filter_cons, Nat.reduceAdd, Nat.reduceLeDiff, reduceCtorEq, List.length_nil, List.length_cons, Nat.mul_one, if_true, if_false, Bool.false_eq_true, eq_self, and_true, true_and, retL, resultsL, resAllL, resOfL, List.append_nil, List.nil_append, List.cons_append, true_or, or_true, false_or, or_false, false_and, and_false, not_true_eq_false, not_false_eq_true, ne_eq, unL, trim_nil, views_pures, LV.pures, LV.pure, freeze, Nat.reduceDiv, Int.reduceEq, Int.reduceLT, Int.reduceLE, Int.natCast_zero, LV.cells, allocL, List.getElem?_cons_zero, List.getElem?_cons_succ, storeL, spliceL, List.take_zero, List.take_succ_cons, List.drop_zero, List.drop_succ_cons, List.drop_nil, List.take_nil, Nat.le_refl, Nat.reduceMul, List.set_cons_zero, List.set_cons_succ, LV.scalar, List.all_cons, List.all_nil, Nat.lt_add_one, Nat.zero_lt_one, Nat.lt_irrefl, fillL, List.length_append, foldIntL, kind_beq, pures_int, solids_int, plains_int, unders_int, scalars_int, show ¬ ((k : Int) < (L : Int)) by omega]
    simp [nones, List.take_of_length_le (show o.length ≤ k by omega)]
  | succ n ih =>
    intro k o hk ho
    have h2 : k < o.length := by omega
    have h3 : k < L := by omega
    have ih := ih (k + 1) (o.set k (-1)) (by omega) (by simpa using ho)
    have e1 : (o.set k (-1)).take (k + 1) ++ nones n = o.take k ++ nones (n + 1) := by
      rw [List.set_eq_take_append_cons_drop, if_pos h2, List.take_append, List.length_take]
      have e2 : k + 1 - min k o.length = 1 := by omega
      rw [e2]
      simp [nones, List.replicate_succ, List.take_take]
    rw [e1] at ih
    rw [ref07_Turns.L1_eq]
    simp only [ref07_Turns.B1, beqT, beqF, exF_seq, exF_region, exF_block, exF_cond, exF_ret, exF_exit, exF_skip, runL, wantL, stepL, evL, LEnv.at, putL, loadFine, loadL, cellsAt, Trk.putNew, Trk.up, Trk.touch, Trk.gives, Trk.calm, Trk.hit, opdsOf, Trk.fresh, LEnv.keep, LEnv.ofFrom, List.map_cons, List.map_nil, nbeq, nble, nblt, ofAV, ofAVs, lenL, bin_add, bin_sub, bin_mul, bin_eql, bin_neq, bin_lss, bin_leq, bin_gtr, bin_geq, natL_nat, natL_zero, natL_one, natL_two, Nat.zero_mul, List.any_cons, List.any_nil, Bool.or_false, Bool.false_or, Bool.true_or, Bool.or_true, Bool.and_true, Bool.true_and, Bool.and_false, Bool.false_and, Bool.not_true, Bool.not_false, Nat.reduceBEq, Nat.reduceEqDiff, decide_true, decide_false, cond_true, cond_false, List.filter_nil, List.filter_cons, Nat.reduceAdd, Nat.reduceLeDiff, reduceCtorEq, List.length_nil, List.length_cons, Nat.mul_one, if_true, if_false, Bool.false_eq_true, eq_self, and_true, true_and, retL, resultsL, resAllL, resOfL, List.append_nil, List.nil_append, List.cons_append, true_or, or_true, false_or, or_false, false_and, and_false, not_true_eq_false, not_false_eq_true, ne_eq, unL, trim_nil, views_pures, LV.pures, LV.pure, freeze, Nat.reduceDiv, Int.reduceEq, Int.reduceLT, Int.reduceLE, Int.natCast_zero, LV.cells, allocL, List.getElem?_cons_zero, List.getElem?_cons_succ, storeL, spliceL, List.take_zero, List.take_succ_cons, List.drop_zero, List.drop_succ_cons, List.drop_nil, List.take_nil, Nat.le_refl, Nat.reduceMul, List.set_cons_zero, List.set_cons_succ, LV.scalar, List.all_cons, List.all_nil, Nat.lt_add_one, Nat.zero_lt_one, Nat.lt_irrefl, fillL, List.length_append, foldIntL, kind_beq, pures_int, solids_int, plains_int, unders_int, scalars_int, show ((k : Int) < (L : Int)) by omega, ho, h2, h3, Nat.zero_add, List.length_map, set_int _ _ _ _ h2, show k + 1 ≤ L by omega, wrap_succ (show k + 1 < 9223372036854775808 by omega), ih]
/-- By turns: the error and the owners. -/
def turnE (V : List (List Int)) (ord : List Int) : Int := if chkV V ≠ 0 then chkV V else if ord.length ≠ V.length then 5 else ordE (V.length : Int) [] ord
def turnV (V : List (List Int)) (ord : List Int) : List Int := if turnE V ord = 0 then trn V ord (V.getD 0 []).length 0 (nones (V.getD 0 []).length) else []
/-- Owners that are handed back, or nothing and an error. -/
abbrev RT (e : Int) (o : List Int) : LV := .tup [IL (decide (e ≠ 0)) true (cond (decide (e ≠ 0)) 0 1) o, .int .i64 e]
theorem RT_err (e : Int) (h : e ≠ 0) : some (RT e [], ([] : LMem)) = some (.tup [.lst true true 0 0 [], .int .i64 e], []) := by simp [h]
theorem ordE_ok (N : Int) : ∀ (l pre : List Int), ordE N pre l = 0 → ∀ x ∈ l, 0 ≤ x ∧ x < N
  | [], pre, _, x, hx => by cases hx
  | a :: r, pre, h, x, hx => by
    rw [ordE] at h
    split at h
    · cases h
    · rename_i h1
      split at h
      · cases h
      · rcases List.mem_cons.1 hx with c | c
        · subst c
          simp [inB] at h1
          omega
        · exact ordE_ok N r _ h x c
theorem turnsP_c (nl ex nl' ex' : Bool) (sz sz' : Nat) (rs : List Row) (o : List Int) (I : In rs nl' sz' o) (m : LMem) : clF LP n_share_Turns [VL nl ex sz rs, IL nl' ex' sz' o] m = some (.P, RT (turnE (vals rs) o) (turnV (vals rs) o), m) := by
  have hc := fun m => check_c nl ex sz rs I.hl I.hr m
  unfold turnV turnE
  rw [vals_length]
  by_cases h1 : chkV (vals rs) = 0
  · have D := vok_of h1
    obtain ⟨k1, k2, k3, k4, k5⟩ := D
    rw [vals0 rs k1] at *
    rw [if_neg (by simpa using h1)]
    by_cases h2 : o.length = rs.length
    · have h2' : ((o.length : Int) = rs.length) := by omega
      rw [if_neg (by simpa using h2)]
      have hne : o ≠ [] := by intro c; subst c; simp at h2; omega
      obtain rfl : sz' = 1 := by rcases I.hsz with c | c; exact absurd c hne; exact c
      have hl := ordP_loop nl ex nl' ex' sz rs o ⟨k1, I.hl⟩ I.ho o.length 0 (by omega)
      simp only [Int.natCast_zero, List.drop_zero, List.take_zero, h2'] at hl
      by_cases h3 : ordE (rs.length : Int) [] o = 0
      · rw [if_pos h3] at hl
        rw [if_pos h3]
        have he := fun m => empty_c nl ex sz rs k1 k5 m
        have ht := turnP_outer nl ex nl' ex' sz (L := rs[0].l.length) ⟨k1, k2, k3, k4, k5⟩ o (by omega) I.ho (ordE_ok _ _ _ h3) rs[0].l.length 0 (nones rs[0].l.length) (by omega) (by simp [nones])
        have hn : (nones rs[0].l.length).length = rs[0].l.length := by simp [nones]
        have htl : (trn (vals rs) o rs[0].l.length 0 (nones rs[0].l.length)).length = rs[0].l.length := by rw [trn_length, hn]
        simp only [TM, hn, htl, Int.natCast_zero] at ht
        have hv := view_slp [⟨[VL nl ex sz rs, SLo 1 rs[0].l.length], true⟩, ⟨(trn (vals rs) o rs[0].l.length 0 (nones rs[0].l.length)).map (LV.int .i64), true⟩, ⟨[VL nl ex sz rs, SLo 1 rs[0].l.length], true⟩] 1 (trn (vals rs) o rs[0].l.length 0 (nones rs[0].l.length)) true 0 rfl
        rw [htl] at hv
        generalize trn (vals rs) o rs[0].l.length 0 (nones rs[0].l.length) = r at *
        rw [h3]
        refine call_Pv lp_share_Turns rfl (by simp [LV.pures, LV.pure]) ?_ hv m
        simp only [share_Turns, share_Turns.B, beqT, beqF, exF_seq, exF_region, exF_block, exF_cond, exF_ret, exF_exit, exF_skip, runL, wantL, stepL, evL, LEnv.at, putL, loadFine, loadL, cellsAt, Trk.putNew, Trk.up, Trk.touch, Trk.gives, Trk.calm, Trk.hit, opdsOf, Trk.fresh, LEnv.keep, LEnv.ofFrom, List.map_cons, List.map_nil, nbeq, nble, nblt, ofAV, ofAVs, lenL, bin_add, bin_sub, bin_mul, bin_eql, bin_neq, bin_lss, bin_leq, bin_gtr, bin_geq, natL_nat, natL_zero, natL_one, natL_two, Nat.zero_mul, List.any_cons, List.any_nil, Bool.or_false, Bool.false_or, Bool.true_or, Bool.or_true, Bool.and_true, Bool.true_and, Bool.and_false, Bool.false_and, Bool.not_true, Bool.not_false, Nat.reduceBEq, Nat.reduceEqDiff, decide_true, decide_false, cond_true, cond_false, List.filter_nil, List.filter_cons, Nat.reduceAdd, Nat.reduceLeDiff, reduceCtorEq, List.length_nil, List.length_cons, Nat.mul_one, if_true, if_false, Bool.false_eq_true, eq_self, and_true, true_and, retL, resultsL, resAllL, resOfL, List.append_nil, List.nil_append, List.cons_append, true_or, or_true, false_or, or_false, false_and, and_false, not_true_eq_false, not_false_eq_true, ne_eq, unL, trim_nil, views_pures, LV.pures, LV.pure, freeze, Nat.reduceDiv, Int.reduceEq, Int.reduceLT, Int.reduceLE, Int.natCast_zero, LV.cells, allocL, List.getElem?_cons_zero, List.getElem?_cons_succ, storeL, spliceL, List.take_zero, List.take_succ_cons, List.drop_zero, List.drop_succ_cons, List.drop_nil, List.take_nil, Nat.le_refl, Nat.reduceMul, List.set_cons_zero, List.set_cons_succ, LV.scalar, List.all_cons, List.all_nil, Nat.lt_add_one, Nat.zero_lt_one, Nat.lt_irrefl, fillL, List.length_append, foldIntL, kind_beq, pures_int, solids_int, plains_int, unders_int, scalars_int, hc, h1, h2', hl, he, ht, Nat.zero_add]
      · rw [if_neg h3] at hl
        rw [if_neg h3]
        have hd : decide (ordE (rs.length : Int) [] o ≠ 0) = true := by simpa using h3
        refine call_P lp_share_Turns rfl (by simp [LV.pures, LV.pure]) (m1 := []) ?_ (by simp [LV.pures, LV.pure]) m
        simp only [share_Turns, share_Turns.B, beqT, beqF, exF_seq, exF_region, exF_block, exF_cond, exF_ret, exF_exit, exF_skip, runL, wantL, stepL, evL, LEnv.at, putL, loadFine, loadL, cellsAt, Trk.putNew, Trk.up, Trk.touch, Trk.gives, Trk.calm, Trk.hit, opdsOf, Trk.fresh, LEnv.keep, LEnv.ofFrom, List.map_cons, List.map_nil, nbeq, nble, nblt, ofAV, ofAVs, lenL, bin_add, bin_sub, bin_mul, bin_eql, bin_neq, bin_lss, bin_leq, bin_gtr, bin_geq, natL_nat, natL_zero, natL_one, natL_two, Nat.zero_mul, List.any_cons, List.any_nil, Bool.or_false, Bool.false_or, Bool.true_or, Bool.or_true, Bool.and_true, Bool.true_and, Bool.and_false, Bool.false_and, Bool.not_true, Bool.not_false, Nat.reduceBEq, Nat.reduceEqDiff, decide_true, decide_false, cond_true, cond_false, List.filter_nil, List.filter_cons, Nat.reduceAdd, Nat.reduceLeDiff, reduceCtorEq, List.length_nil, List.length_cons, Nat.mul_one, if_true, if_false, Bool.false_eq_true, eq_self, and_true, true_and, retL, resultsL, resAllL, resOfL, List.append_nil, List.nil_append, List.cons_append, true_or, or_true, false_or, or_false, false_and, and_false, not_true_eq_false, not_false_eq_true, ne_eq, unL, trim_nil, views_pures, LV.pures, LV.pure, freeze, Nat.reduceDiv, Int.reduceEq, Int.reduceLT, Int.reduceLE, Int.natCast_zero, LV.cells, allocL, List.getElem?_cons_zero, List.getElem?_cons_succ, storeL, spliceL, List.take_zero, List.take_succ_cons, List.drop_zero, List.drop_succ_cons, List.drop_nil, List.take_nil, Nat.le_refl, Nat.reduceMul, List.set_cons_zero, List.set_cons_succ, LV.scalar, List.all_cons, List.all_nil, Nat.lt_add_one, Nat.zero_lt_one, Nat.lt_irrefl, fillL, List.length_append, foldIntL, kind_beq, pures_int, solids_int, plains_int, unders_int, scalars_int, hc, h1, h2', hl, h3]
        rw [RT_err _ h3]
    · have h2' : ¬ ((o.length : Int) = rs.length) := by omega
      rw [if_pos (by simpa using h2)]
      refine call_P lp_share_Turns rfl (by simp [LV.pures, LV.pure]) (m1 := []) ?_ (by simp [LV.pures, LV.pure]) m
      simp only [share_Turns, share_Turns.B, beqT, beqF, exF_seq, exF_region, exF_block, exF_cond, exF_ret, exF_exit, exF_skip, runL, wantL, stepL, evL, LEnv.at, putL, loadFine, loadL, cellsAt, Trk.putNew, Trk.up, Trk.touch, Trk.gives, Trk.calm, Trk.hit, opdsOf, Trk.fresh, LEnv.keep, LEnv.ofFrom, List.map_cons, List.map_nil, nbeq, nble, nblt, ofAV, ofAVs, lenL, bin_add, bin_sub, bin_mul, bin_eql, bin_neq, bin_lss, bin_leq, bin_gtr, bin_geq, natL_nat, natL_zero, natL_one, natL_two, Nat.zero_mul, List.any_cons, List.any_nil, Bool.or_false, Bool.false_or, Bool.true_or, Bool.or_true, Bool.and_true, Bool.true_and, Bool.and_false, Bool.false_and, Bool.not_true, Bool.not_false, Nat.reduceBEq, Nat.reduceEqDiff, decide_true, decide_false, cond_true, cond_false, List.filter_nil, List.filter_cons, Nat.reduceAdd, Nat.reduceLeDiff, reduceCtorEq, List.length_nil, List.length_cons, Nat.mul_one, if_true, if_false, Bool.false_eq_true, eq_self, and_true, true_and, retL, resultsL, resAllL, resOfL, List.append_nil, List.nil_append, List.cons_append, true_or, or_true, false_or, or_false, false_and, and_false, not_true_eq_false, not_false_eq_true, ne_eq, unL, trim_nil, views_pures, LV.pures, LV.pure, freeze, Nat.reduceDiv, Int.reduceEq, Int.reduceLT, Int.reduceLE, Int.natCast_zero, LV.cells, allocL, List.getElem?_cons_zero, List.getElem?_cons_succ, storeL, spliceL, List.take_zero, List.take_succ_cons, List.drop_zero, List.drop_succ_cons, List.drop_nil, List.take_nil, Nat.le_refl, Nat.reduceMul, List.set_cons_zero, List.set_cons_succ, LV.scalar, List.all_cons, List.all_nil, Nat.lt_add_one, Nat.zero_lt_one, Nat.lt_irrefl, fillL, List.length_append, foldIntL, kind_beq, pures_int, solids_int, plains_int, unders_int, scalars_int, hc, h1, h2']
      rw [RT_err _ (by omega)]
  · rw [if_pos (by simpa using h1)]
    refine call_P lp_share_Turns rfl (by simp [LV.pures, LV.pure]) (m1 := []) ?_ (by simp [LV.pures, LV.pure]) m
    simp only [share_Turns, share_Turns.B, beqT, beqF, exF_seq, exF_region, exF_block, exF_cond, exF_ret, exF_exit, exF_skip, runL, wantL, stepL, evL, LEnv.at, putL, loadFine, loadL, cellsAt, Trk.putNew, Trk.up, Trk.touch, Trk.gives, Trk.calm, Trk.hit, opdsOf, Trk.fresh, LEnv.keep, LEnv.ofFrom, List.map_cons, List.map_nil, nbeq, nble, nblt, ofAV, ofAVs, lenL, bin_add, bin_sub, bin_mul, bin_eql, bin_neq, bin_lss, bin_leq, bin_gtr, bin_geq, natL_nat, natL_zero, natL_one, natL_two, Nat.zero_mul, List.any_cons, List.any_nil, Bool.or_false, Bool.false_or, Bool.true_or, Bool.or_true, Bool.and_true, Bool.true_and, Bool.and_false, Bool.false_and, Bool.not_true, Bool.not_false, Nat.reduceBEq, Nat.reduceEqDiff, decide_true, decide_false, cond_true, cond_false, List.filter_nil, List.filter_cons, Nat.reduceAdd, Nat.reduceLeDiff, reduceCtorEq, List.length_nil, List.length_cons, Nat.mul_one, if_true, if_false, Bool.false_eq_true, eq_self, and_true, true_and, retL, resultsL, resAllL, resOfL, List.append_nil, List.nil_append, List.cons_append, true_or, or_true, false_or, or_false, false_and, and_false, not_true_eq_false, not_false_eq_true, ne_eq, unL, trim_nil, views_pures, LV.pures, LV.pure, freeze, Nat.reduceDiv, Int.reduceEq, Int.reduceLT, Int.reduceLE, Int.natCast_zero, LV.cells, allocL, List.getElem?_cons_zero, List.getElem?_cons_succ, storeL, spliceL, List.take_zero, List.take_succ_cons, List.drop_zero, List.drop_succ_cons, List.drop_nil, List.take_nil, Nat.le_refl, Nat.reduceMul, List.set_cons_zero, List.set_cons_succ, LV.scalar, List.all_cons, List.all_nil, Nat.lt_add_one, Nat.zero_lt_one, Nat.lt_irrefl, fillL, List.length_append, foldIntL, kind_beq, pures_int, solids_int, plains_int, unders_int, scalars_int, hc, h1]
    rw [RT_err _ h1]
theorem turnsR_c (nl ex nl' ex' : Bool) (sz sz' : Nat) (rs : List Row) (o : List Int) (I : In rs nl' sz' o) (m : LMem) : clF LP n_ref07_Turns [VL nl ex sz rs, IL nl' ex' sz' o] m = some (.P, RT (turnE (vals rs) o) (turnV (vals rs) o), m) := by
  have hc := fun m => rcheck_c nl ex sz rs I.hl I.hr m
  unfold turnV turnE
  rw [vals_length]
  by_cases h1 : chkV (vals rs) = 0
  · have D := vok_of h1
    obtain ⟨k1, k2, k3, k4, k5⟩ := D
    rw [vals0 rs k1] at *
    rw [if_neg (by simpa using h1)]
    by_cases h2 : o.length = rs.length
    · have h2' : ((o.length : Int) = rs.length) := by omega
      rw [if_neg (by simpa using h2)]
      have hne : o ≠ [] := by intro c; subst c; simp at h2; omega
      obtain rfl : sz' = 1 := by rcases I.hsz with c | c; exact absurd c hne; exact c
      have hl := ordR_loop nl ex nl' ex' sz rs o ⟨k1, I.hl⟩ I.ho o.length 0 (by omega)
      simp only [Int.natCast_zero, List.drop_zero, List.take_zero, h2'] at hl
      by_cases h3 : ordE (rs.length : Int) [] o = 0
      · rw [h3] at hl
        rw [if_pos h3]
        have hf := turnR_fill nl ex nl' ex' sz 1 rs o rs[0].l.length k5 rs[0].l.length 0 (List.replicate rs[0].l.length 0) (by omega) (by simp)
        have ht := turnR_outer nl ex nl' ex' sz (L := rs[0].l.length) ⟨k1, k2, k3, k4, k5⟩ o (by omega) I.ho (ordE_ok _ _ _ h3) rs[0].l.length 0 (nones rs[0].l.length) (by omega) (by simp [nones]) (by
          intro x hx
          have := List.eq_of_mem_replicate hx
          omega) (by simp [nones])
        have hn : (nones rs[0].l.length).length = rs[0].l.length := by simp [nones]
        have htl : (trn (vals rs) o rs[0].l.length 0 (nones rs[0].l.length)).length = rs[0].l.length := by rw [trn_length, hn]
        simp only [Int.natCast_zero, List.take_zero, List.nil_append] at ht hf
        have hv := view_slp [⟨(trn (vals rs) o rs[0].l.length 0 (nones rs[0].l.length)).map (LV.int .i64), true⟩] 0 (trn (vals rs) o rs[0].l.length 0 (nones rs[0].l.length)) true 0 rfl
        rw [htl] at hv
        generalize trn (vals rs) o rs[0].l.length 0 (nones rs[0].l.length) = r at *
        rw [h3]
        have hr1 : rs[0].l.length * 8 ≤ roomMost := by unfold roomMost; omega
        have hr2 : rs[0].l.length ≤ roomMost := by unfold roomMost; omega
        refine call_Pv lp_ref07_Turns rfl (by simp [LV.pures, LV.pure]) ?_ hv m
        simp only [ref07_Turns, ref07_Turns.B, beqT, beqF, exF_seq, exF_region, exF_block, exF_cond, exF_ret, exF_exit, exF_skip, runL, wantL, stepL, evL, LEnv.at, putL, loadFine, loadL, cellsAt, Trk.putNew, Trk.up, Trk.touch, Trk.gives, Trk.calm, Trk.hit, opdsOf, Trk.fresh, LEnv.keep, LEnv.ofFrom, List.map_cons, List.map_nil, nbeq, nble, nblt, ofAV, ofAVs, lenL, bin_add, bin_sub, bin_mul, bin_eql, bin_neq, bin_lss, bin_leq, bin_gtr, bin_geq, natL_nat, natL_zero, natL_one, natL_two, Nat.zero_mul, List.any_cons, List.any_nil, Bool.or_false, Bool.false_or, Bool.true_or, Bool.or_true, Bool.and_true, Bool.true_and, Bool.and_false, Bool.false_and, Bool.not_true, Bool.not_false, Nat.reduceBEq, Nat.reduceEqDiff, decide_true, decide_false, cond_true, cond_false, List.filter_nil, List.filter_cons, Nat.reduceAdd, Nat.reduceLeDiff, reduceCtorEq, List.length_nil, List.length_cons, Nat.mul_one, if_true, if_false, Bool.false_eq_true, eq_self, and_true, true_and, retL, resultsL, resAllL, resOfL, List.append_nil, List.nil_append, List.cons_append, true_or, or_true, false_or, or_false, false_and, and_false, not_true_eq_false, not_false_eq_true, ne_eq, unL, trim_nil, views_pures, LV.pures, LV.pure, freeze, Nat.reduceDiv, Int.reduceEq, Int.reduceLT, Int.reduceLE, Int.natCast_zero, LV.cells, allocL, List.getElem?_cons_zero, List.getElem?_cons_succ, storeL, spliceL, List.take_zero, List.take_succ_cons, List.drop_zero, List.drop_succ_cons, List.drop_nil, List.take_nil, Nat.le_refl, Nat.reduceMul, List.set_cons_zero, List.set_cons_succ, LV.scalar, List.all_cons, List.all_nil, Nat.lt_add_one, Nat.zero_lt_one, Nat.lt_irrefl, fillL, List.length_append, foldIntL, kind_beq, pures_int, solids_int, plains_int, unders_int, scalars_int, hc, h1, h2', k1, row_at _ _ k1, hl, hf, ht, Nat.zero_add, hr1, hr2, zeros_int]
      · rw [if_neg h3]
        have hd : decide (ordE (rs.length : Int) [] o ≠ 0) = true := by simpa using h3
        refine call_P lp_ref07_Turns rfl (by simp [LV.pures, LV.pure]) (m1 := []) ?_ (by simp [LV.pures, LV.pure]) m
        simp only [ref07_Turns, ref07_Turns.B, beqT, beqF, exF_seq, exF_region, exF_block, exF_cond, exF_ret, exF_exit, exF_skip, runL, wantL, stepL, evL, LEnv.at, putL, loadFine, loadL, cellsAt, Trk.putNew, Trk.up, Trk.touch, Trk.gives, Trk.calm, Trk.hit, opdsOf, Trk.fresh, LEnv.keep, LEnv.ofFrom, List.map_cons, List.map_nil, nbeq, nble, nblt, ofAV, ofAVs, lenL, bin_add, bin_sub, bin_mul, bin_eql, bin_neq, bin_lss, bin_leq, bin_gtr, bin_geq, natL_nat, natL_zero, natL_one, natL_two, Nat.zero_mul, List.any_cons, List.any_nil, Bool.or_false, Bool.false_or, Bool.true_or, Bool.or_true, Bool.and_true, Bool.true_and, Bool.and_false, Bool.false_and, Bool.not_true, Bool.not_false, Nat.reduceBEq, Nat.reduceEqDiff, decide_true, decide_false, cond_true, cond_false, List.filter_nil, List.filter_cons, Nat.reduceAdd, Nat.reduceLeDiff, reduceCtorEq, List.length_nil, List.length_cons, Nat.mul_one, if_true, if_false, Bool.false_eq_true, eq_self, and_true, true_and, retL, resultsL, resAllL, resOfL, List.append_nil, List.nil_append, List.cons_append, true_or, or_true, false_or, or_false, false_and, and_false, not_true_eq_false, not_false_eq_true, ne_eq, unL, trim_nil, views_pures, LV.pures, LV.pure, freeze, Nat.reduceDiv, Int.reduceEq, Int.reduceLT, Int.reduceLE, Int.natCast_zero, LV.cells, allocL, List.getElem?_cons_zero, List.getElem?_cons_succ, storeL, spliceL, List.take_zero, List.take_succ_cons, List.drop_zero, List.drop_succ_cons, List.drop_nil, List.take_nil, Nat.le_refl, Nat.reduceMul, List.set_cons_zero, List.set_cons_succ, LV.scalar, List.all_cons, List.all_nil, Nat.lt_add_one, Nat.zero_lt_one, Nat.lt_irrefl, fillL, List.length_append, foldIntL, kind_beq, pures_int, solids_int, plains_int, unders_int, scalars_int, hc, h1, h2', hl, h3]
        rw [RT_err _ h3]
    · have h2' : ¬ ((o.length : Int) = rs.length) := by omega
      rw [if_pos (by simpa using h2)]
      have hl := ordR_stop nl ex nl' ex' sz sz' rs o 5 (by omega)
      refine call_P lp_ref07_Turns rfl (by simp [LV.pures, LV.pure]) (m1 := []) ?_ (by simp [LV.pures, LV.pure]) m
      simp only [ref07_Turns, ref07_Turns.B, beqT, beqF, exF_seq, exF_region, exF_block, exF_cond, exF_ret, exF_exit, exF_skip, runL, wantL, stepL, evL, LEnv.at, putL, loadFine, loadL, cellsAt, Trk.putNew, Trk.up, Trk.touch, Trk.gives, Trk.calm, Trk.hit, opdsOf, Trk.fresh, LEnv.keep, LEnv.ofFrom, List.map_cons, List.map_nil, nbeq, nble, nblt, ofAV, ofAVs, lenL, bin_add, bin_sub, bin_mul, bin_eql, bin_neq, bin_lss, bin_leq, bin_gtr, bin_geq, natL_nat, natL_zero, natL_one, natL_two, Nat.zero_mul, List.any_cons, List.any_nil, Bool.or_false, Bool.false_or, Bool.true_or, Bool.or_true, Bool.and_true, Bool.true_and, Bool.and_false, Bool.false_and, Bool.not_true, Bool.not_false, Nat.reduceBEq, Nat.reduceEqDiff, decide_true, decide_false, cond_true, cond_false, List.filter_nil, List.filter_cons, Nat.reduceAdd, Nat.reduceLeDiff, reduceCtorEq, List.length_nil, List.length_cons, Nat.mul_one, if_true, if_false, Bool.false_eq_true, eq_self, and_true, true_and, retL, resultsL, resAllL, resOfL, List.append_nil, List.nil_append, List.cons_append, true_or, or_true, false_or, or_false, false_and, and_false, not_true_eq_false, not_false_eq_true, ne_eq, unL, trim_nil, views_pures, LV.pures, LV.pure, freeze, Nat.reduceDiv, Int.reduceEq, Int.reduceLT, Int.reduceLE, Int.natCast_zero, LV.cells, allocL, List.getElem?_cons_zero, List.getElem?_cons_succ, storeL, spliceL, List.take_zero, List.take_succ_cons, List.drop_zero, List.drop_succ_cons, List.drop_nil, List.take_nil, Nat.le_refl, Nat.reduceMul, List.set_cons_zero, List.set_cons_succ, LV.scalar, List.all_cons, List.all_nil, Nat.lt_add_one, Nat.zero_lt_one, Nat.lt_irrefl, fillL, List.length_append, foldIntL, kind_beq, pures_int, solids_int, plains_int, unders_int, scalars_int, hc, h1, h2', hl]
      rw [RT_err _ (by omega)]
  · rw [if_pos (by simpa using h1)]
    have hl := ordR_stop nl ex nl' ex' sz sz' rs o _ h1
    refine call_P lp_ref07_Turns rfl (by simp [LV.pures, LV.pure]) (m1 := []) ?_ (by simp [LV.pures, LV.pure]) m
    simp only [ref07_Turns, ref07_Turns.B, beqT, beqF, exF_seq, exF_region, exF_block, exF_cond, exF_ret, exF_exit, exF_skip, runL, wantL, stepL, evL, LEnv.at, putL, loadFine, loadL, cellsAt, Trk.putNew, Trk.up, Trk.touch, Trk.gives, Trk.calm, Trk.hit, opdsOf, Trk.fresh, LEnv.keep, LEnv.ofFrom, List.map_cons, List.map_nil, nbeq, nble, nblt, ofAV, ofAVs, lenL, bin_add, bin_sub, bin_mul, bin_eql, bin_neq, bin_lss, bin_leq, bin_gtr, bin_geq, natL_nat, natL_zero, natL_one, natL_two, Nat.zero_mul, List.any_cons, List.any_nil, Bool.or_false, Bool.false_or, Bool.true_or, Bool.or_true, Bool.and_true, Bool.true_and, Bool.and_false, Bool.false_and, Bool.not_true, Bool.not_false, Nat.reduceBEq, Nat.reduceEqDiff, decide_true, decide_false, cond_true, cond_false, List.filter_nil, List.filter_cons, Nat.reduceAdd, Nat.reduceLeDiff, reduceCtorEq, List.length_nil, List.length_cons, Nat.mul_one, if_true, if_false, Bool.false_eq_true, eq_self, and_true, true_and, retL, resultsL, resAllL, resOfL, List.append_nil, List.nil_append, List.cons_append, true_or, or_true, false_or, or_false, false_and, and_false, not_true_eq_false, not_false_eq_true, ne_eq, unL, trim_nil, views_pures, LV.pures, LV.pure, freeze, Nat.reduceDiv, Int.reduceEq, Int.reduceLT, Int.reduceLE, Int.natCast_zero, LV.cells, allocL, List.getElem?_cons_zero, List.getElem?_cons_succ, storeL, spliceL, List.take_zero, List.take_succ_cons, List.drop_zero, List.drop_succ_cons, List.drop_nil, List.take_nil, Nat.le_refl, Nat.reduceMul, List.set_cons_zero, List.set_cons_succ, LV.scalar, List.all_cons, List.all_nil, Nat.lt_add_one, Nat.zero_lt_one, Nat.lt_irrefl, fillL, List.length_append, foldIntL, kind_beq, pures_int, solids_int, plains_int, unders_int, scalars_int, hc, h1, hl]
    rw [RT_err _ h1]
end Share
end Go.Am
