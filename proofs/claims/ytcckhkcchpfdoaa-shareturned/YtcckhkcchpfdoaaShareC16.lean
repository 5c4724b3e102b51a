import Derived.Test.YtcckhkcchpfdoaaShareC14
import Derived.Test.YtcckhkcchpfdoaaShareC6
/-
  What functions of chapter 07 compute, 16: things by turns.
-/
set_option linter.unusedVariables false
set_option linter.unusedSimpArgs false
set_option maxRecDepth 10000
namespace Go.Am
theorem view_slp (m : LMem) (i : Nat) (o : List Int) (b : Bool) (e : Int) (h : m[i]? = some ⟨o.map (LV.int .i64), b⟩) : view 40 m (.tup [.sl i 0 o.length o.length 0 1 o.length, .int .i64 e]) = some (.tup [IL false true 1 o, .int .i64 e], [i]) := by
  have h2 : ((o.map (LV.int .i64)).drop 0).take (o.length * 1) = o.map (LV.int .i64) := by rw [List.drop_zero, List.take_of_length_le (by simp)]
  have v1 : ∀ k, view (k + 3) m (.sl i 0 o.length o.length 0 1 o.length) = some (IL false true 1 o, [i]) := fun k => by
    simp only [view, h, h2, viewL_pures _ _ _ (pures_int .i64 o)]
    simp [nbeq, nble]
  have hnp : LV.pures [.sl i 0 o.length o.length 0 1 o.length, .int .i64 e] = false := by simp [LV.pures, LV.pure]
  rw [view.eq_def]
  simp only
  rw [viewL.eq_def]
  simp only [hnp, cond_false]
  rw [viewC.eq_def]
  simp only [v1 34]
  rw [viewC.eq_def]
  simp only [view_pure 34 _ (.int .i64 e) rfl]
  rw [viewC.eq_def]
  rfl
namespace Share
def tstep (V : List (List Int)) (o : List Int) (w : Int) : List Int := o.set (pk (V.getD w.toNat []) o 0 (0, -1)).1 w
def trn (V : List (List Int)) (ord : List Int) : Nat → Nat → List Int → List Int
  | 0, _, o => o
  | n + 1, t, o => trn V ord n (t + 1) (tstep V o (ord.getD (t % ord.length) 0))
theorem tstep_length (V : List (List Int)) (o : List Int) (w : Int) : (tstep V o w).length = o.length := by simp [tstep]
theorem trn_length (V : List (List Int)) (ord : List Int) (n : Nat) : ∀ (t : Nat) (o : List Int), (trn V ord n t o).length = o.length := by
  induction n with
  | zero => intro t o; rfl
  | succ n ih => intro t o; rw [trn, ih, tstep_length]
/-- Values that are checked, and numbers of finders. -/
structure VOk (rs : List Row) (L : Nat) : Prop where
  pos : 0 < rs.length
  le4 : rs.length ≤ 4
  len : ∀ i (h : i < rs.length), rs[i].l.length = L
  ok : ∀ i (h : i < rs.length), Ok20 rs[i].l
  le6 : L ≤ 6
theorem vok_of {rs : List Row} (h : chkV (vals rs) = 0) : VOk rs ((vals rs).getD 0 []).length := by
  obtain ⟨k1, k2, k3, k4⟩ := chkV_ok h
  rw [vals_length] at k1 k2
  have hrow : ∀ i (h : i < rs.length), rs[i].l ∈ vals rs := fun i h => List.mem_map.2 ⟨rs[i], List.getElem_mem h, rfl⟩
  exact ⟨k1, k2, fun i hi => (k4 _ (hrow i hi)).1, fun i hi => (k4 _ (hrow i hi)).2, by omega⟩
theorem turnP_outer (nl ex nl' ex' : Bool) (sz : Nat) {rs : List Row} {L : Nat} (D : VOk rs L) (ord : List Int) (hol : 0 < ord.length) (hoq : ord.length < 1000000) (hor : ∀ x ∈ ord, 0 ≤ x ∧ x < rs.length) (n : Nat) : ∀ (t : Nat) (o : List Int), t + n = L → o.length = L →
    exF LP share_Turns.L2 [(0, VL nl ex sz rs), (1, IL nl' ex' 1 ord), (9, .ptr 2 0 2), (53, .int .i64 (L : Int)), (54, .int .i64 (t : Int))] (TM (VL nl ex sz rs) o) =
      some (.exit 4, [(9, .ptr 2 0 2)], TM (VL nl ex sz rs) (trn (vals rs) ord n t o)) := by
  have h6 := D.le6
  induction n with
  | zero =>
    intro t o ht ho
    rw [share_Turns.L2_eq]
    simp only [share_Turns.B2, beqT, beqF, exF_seq, exF_region, exF_block, exF_cond, exF_ret, exF_exit, exF_skip, runL, wantL, stepL, evL, evC, LEnv.at, putL, loadFine, loadL, cellsAt, Trk.putNew, Trk.up, Trk.touch, Trk.gives, Trk.calm, Trk.hit, opdsOf, Trk.fresh, LEnv.keep, LEnv.ofFrom, List.map_cons, List.map_nil, nbeq, nble, nblt, ofAV, ofAVs, lenL, bin_add, bin_sub, bin_mul, bin_eql, bin_neq, bin_lss, bin_leq, bin_gtr, bin_geq, natL_nat, natL_zero, natL_one, natL_two, Nat.zero_mul, List.any_cons, List.any_nil, Bool.or_false, Bool.false_or, Bool.true_or, Bool.or_true, Bool.and_true, Bool.true_and, Bool.and_false, Bool.false_and, Bool.not_true, Bool.not_false, Nat.reduceBEq, Nat.reduceEqDiff, decide_true, decide_false, cond_true, cond_false, List.filter_nil, List.filter_cons, Nat.reduceAdd, Nat.reduceLeDiff, reduceCtorEq, List.length_nil, List.length_cons, Nat.mul_one, if_true, if_false, Bool.false_eq_true, eq_self, and_true, true_and, retL, resultsL, resAllL, resOfL, List.append_nil, List.nil_append, List.cons_append, true_or, or_true, false_or, or_false, false_and, and_false, not_true_eq_false, not_false_eq_true, ne_eq, unL, trim_nil, views_pures, LV.pures, LV.pure, freeze, Nat.reduceDiv, Int.reduceEq, Int.reduceLT, Int.reduceLE, Int.natCast_zero, LV.cells, allocL, List.getElem?_cons_zero, List.getElem?_cons_succ, storeL, spliceL, List.take_zero, List.take_succ_cons, List.drop_zero, List.drop_succ_cons, List.drop_nil, List.take_nil, Nat.le_refl, Nat.reduceMul, List.set_cons_zero, List.set_cons_succ, LV.scalar, List.all_cons, List.all_nil, Nat.lt_add_one, Nat.zero_lt_one, Nat.reduceLT, Nat.lt_irrefl, fillL, List.length_append, foldIntL, kind_beq, pures_int, solids_int, plains_int, unders_int, scalars_int, show ¬ ((t : Int) < (L : Int)) by omega, trn]
  | succ n ih =>
    intro t o ht ho
    have ht2 : (t : Int) < (L : Int) := by omega
    have hm : t % ord.length < ord.length := Nat.mod_lt _ hol
    have hne : ((ord.length : Nat) : Int) ≠ 0 := by omega
    obtain ⟨w1, w2⟩ := hor _ (List.getElem_mem hm)
    obtain ⟨w, hw⟩ := Int.eq_ofNat_of_zero_le w1
    have hw2 : w < rs.length := by omega
    have hg : ord.getD (t % ord.length) 0 = (w : Int) := by rw [← hw]; simp [List.getD_eq_getElem?_getD, hm]
    have hin := turnP_inner nl ex nl' ex' sz rs ord w hw2 o (by rw [D.len w hw2, ho]) (by omega) (L : Int) (w : Int) (t : Int) o.length 0 (0, -1) (by omega)
    have hb := pk_lt rs[w].l o 0 (0, -1) o.length (by omega) (by simp; omega)
    rw [trn, hg]
    unfold tstep
    rw [Int.toNat_natCast, vals_at rs w hw2]
    simp only [Int.natCast_zero, List.drop_zero] at hin
    have hrl : rs[w].l.length = o.length := by rw [D.len w hw2, ho]
    generalize (pk rs[w].l o 0 (0, -1)).1 = b at *
    have ih := ih (t + 1) (o.set b w) (by omega) (by simpa using ho)
    have hbL : b < L := by omega
    have hs : (o.set b (w : Int)).length = L := by simp [ho]
    simp only [TM, hs] at ih
    simp only [TM, ho] at hin
    rw [ho] at hrl
    rw [share_Turns.L2_eq]
    simp only [TM, share_Turns.B2, beqT, beqF, exF_seq, exF_region, exF_block, exF_cond, exF_ret, exF_exit, exF_skip, runL, wantL, stepL, evL, evC, LEnv.at, putL, loadFine, loadL, cellsAt, Trk.putNew, Trk.up, Trk.touch, Trk.gives, Trk.calm, Trk.hit, opdsOf, Trk.fresh, LEnv.keep, LEnv.ofFrom, List.map_cons, List.map_nil, nbeq, nble, nblt, ofAV, ofAVs, lenL, bin_add, bin_sub, bin_mul, bin_eql, bin_neq, bin_lss, bin_leq, bin_gtr, bin_geq, natL_nat, natL_zero, natL_one, natL_two, Nat.zero_mul, List.any_cons, List.any_nil, Bool.or_false, Bool.false_or, Bool.true_or, Bool.or_true, Bool.and_true, Bool.true_and, Bool.and_false, Bool.false_and, Bool.not_true, Bool.not_false, Nat.reduceBEq, Nat.reduceEqDiff, decide_true, decide_false, cond_true, cond_false, List.filter_nil, List.filter_cons, Nat.reduceAdd, Nat.reduceLeDiff, reduceCtorEq, List.length_nil, List.length_cons, Nat.mul_one, if_true, if_false, Bool.false_eq_true, eq_self, and_true, true_and, retL, resultsL, resAllL, resOfL, List.append_nil, List.nil_append, List.cons_append, true_or, or_true, false_or, or_false, false_and, and_false, not_true_eq_false, not_false_eq_true, ne_eq, unL, trim_nil, views_pures, LV.pures, LV.pure, freeze, Nat.reduceDiv, Int.reduceEq, Int.reduceLT, Int.reduceLE, Int.natCast_zero, LV.cells, allocL, List.getElem?_cons_zero, List.getElem?_cons_succ, storeL, spliceL, List.take_zero, List.take_succ_cons, List.drop_zero, List.drop_succ_cons, List.drop_nil, List.take_nil, Nat.le_refl, Nat.reduceMul, List.set_cons_zero, List.set_cons_succ, LV.scalar, List.all_cons, List.all_nil, Nat.lt_add_one, Nat.zero_lt_one, Nat.reduceLT, Nat.lt_irrefl, fillL, List.length_append, foldIntL, kind_beq, pures_int, solids_int, plains_int, unders_int, scalars_int, ht2, bin_rem _ _ _ hne, tmod_nat, hm, int_at _ _ _ hm, hw, hw2, row_at _ _ hw2, hrl, hin, ho, Nat.zero_add, hb, hbL, List.length_map, set_int _ _ _ _ hb, show b + 1 ≤ L by omega, wrap_succ (show t + 1 < 9223372036854775808 by omega), ih]

theorem zeros_int (n : Nat) : zerosL [.int .i64 0] n = (List.replicate n (0 : Int)).map (LV.int .i64) := by
  unfold zerosL
  apply List.ext_getElem (by simp)
  intro i h1 h2
  simp [Nat.mod_one]
/-- By turns: the error and the owners. -/
def turnE (V : List (List Int)) (ord : List Int) : Int := if chkV V ≠ 0 then chkV V else if ord.length ≠ V.length then 5 else ordE (V.length : Int) [] ord
def turnV (V : List (List Int)) (ord : List Int) : List Int := if turnE V ord = 0 then trn V ord (V.getD 0 []).length 0 (nones (V.getD 0 []).length) else []
/-- Owners that are handed back, or nothing and an error. -/
abbrev RT (e : Int) (o : List Int) : LV := .tup [IL (decide (e ≠ 0)) true (cond (decide (e ≠ 0)) 0 1) o, .int .i64 e]
theorem RT_err (e : Int) (h : e ≠ 0) : some (RT e [], ([] : LMem)) = some (.tup [.lst true true 0 0 [], .int .i64 e], []) := by simp [h]
theorem ordE_ok (N : Int) : ∀ (l pre : List Int), ordE N pre l = 0 → ∀ x ∈ l, 0 ≤ x ∧ x < N
  | [], pre, _, x, hx => by cases hx
  | a :: r, pre, h, x, hx => by
    rw [ordE] at h
    split at h
    · cases h
    · rename_i h1
      split at h
      · cases h
      · rcases List.mem_cons.1 hx with c | c
        · subst c
          simp [inB] at h1
          omega
        · exact ordE_ok N r _ h x c
theorem turnsP_c (nl ex nl' ex' : Bool) (sz sz' : Nat) (rs : List Row) (o : List Int) (I : In rs nl' sz' o) (m : LMem) : clF LP n_share_Turns [VL nl ex sz rs, IL nl' ex' sz' o] m = some (.P, RT (turnE (vals rs) o) (turnV (vals rs) o), m) := by
  have hc := fun m => check_c nl ex sz rs I.hl I.hr m
  unfold turnV turnE
  rw [vals_length]
  by_cases h1 : chkV (vals rs) = 0
  · have D := vok_of h1
    obtain ⟨k1, k2, k3, k4, k5⟩ := D
    rw [vals0 rs k1] at *
    rw [if_neg (by simpa using h1)]
    by_cases h2 : o.length = rs.length
    · have h2' : ((o.length : Int) = rs.length) := by omega
      rw [if_neg (by simpa using h2)]
      have hne : o ≠ [] := by intro c; subst c; simp at h2; omega
      obtain rfl : sz' = 1 := by rcases I.hsz with c | c; exact absurd c hne; exact c
      have hl := ordP_loop nl ex nl' ex' sz rs o ⟨k1, I.hl⟩ I.ho o.length 0 (by omega)
      simp only [Int.natCast_zero, List.drop_zero, List.take_zero, h2'] at hl
      by_cases h3 : ordE (rs.length : Int) [] o = 0
      · rw [if_pos h3] at hl
        rw [if_pos h3]
        have he := fun m => empty_c nl ex sz rs k1 k5 m
        have ht := turnP_outer nl ex nl' ex' sz (L := rs[0].l.length) ⟨k1, k2, k3, k4, k5⟩ o (by omega) I.ho (ordE_ok _ _ _ h3) rs[0].l.length 0 (nones rs[0].l.length) (by omega) (by simp [nones])
        have hn : (nones rs[0].l.length).length = rs[0].l.length := by simp [nones]
        have htl : (trn (vals rs) o rs[0].l.length 0 (nones rs[0].l.length)).length = rs[0].l.length := by rw [trn_length, hn]
        simp only [TM, hn, htl, Int.natCast_zero] at ht
        have hv := view_slp [⟨[VL nl ex sz rs, SLo 1 rs[0].l.length], true⟩, ⟨(trn (vals rs) o rs[0].l.length 0 (nones rs[0].l.length)).map (LV.int .i64), true⟩, ⟨[VL nl ex sz rs, SLo 1 rs[0].l.length], true⟩] 1 (trn (vals rs) o rs[0].l.length 0 (nones rs[0].l.length)) true 0 rfl
        rw [htl] at hv
        generalize trn (vals rs) o rs[0].l.length 0 (nones rs[0].l.length) = r at *
        rw [h3]
        refine call_Pv lp_share_Turns rfl (by simp [LV.pures, LV.pure]) ?_ hv m
        simp only [share_Turns, share_Turns.B, beqT, beqF, exF_seq, exF_region, exF_block, exF_cond, exF_ret, exF_exit, exF_skip, runL, wantL, stepL, evL, evC, LEnv.at, putL, loadFine, loadL, cellsAt, Trk.putNew, Trk.up, Trk.touch, Trk.gives, Trk.calm, Trk.hit, opdsOf, Trk.fresh, LEnv.keep, LEnv.ofFrom, List.map_cons, List.map_nil, nbeq, nble, nblt, ofAV, ofAVs, lenL, bin_add, bin_sub, bin_mul, bin_eql, bin_neq, bin_lss, bin_leq, bin_gtr, bin_geq, natL_nat, natL_zero, natL_one, natL_two, Nat.zero_mul, List.any_cons, List.any_nil, Bool.or_false, Bool.false_or, Bool.true_or, Bool.or_true, Bool.and_true, Bool.true_and, Bool.and_false, Bool.false_and, Bool.not_true, Bool.not_false, Nat.reduceBEq, Nat.reduceEqDiff, decide_true, decide_false, cond_true, cond_false, List.filter_nil, List.filter_cons, Nat.reduceAdd, Nat.reduceLeDiff, reduceCtorEq, List.length_nil, List.length_cons, Nat.mul_one, if_true, if_false, Bool.false_eq_true, eq_self, and_true, true_and, retL, resultsL, resAllL, resOfL, List.append_nil, List.nil_append, List.cons_append, true_or, or_true, false_or, or_false, false_and, and_false, not_true_eq_false, not_false_eq_true, ne_eq, unL, trim_nil, views_pures, LV.pures, LV.pure, freeze, Nat.reduceDiv, Int.reduceEq, Int.reduceLT, Int.reduceLE, Int.natCast_zero, LV.cells, allocL, List.getElem?_cons_zero, List.getElem?_cons_succ, storeL, spliceL, List.take_zero, List.take_succ_cons, List.drop_zero, List.drop_succ_cons, List.drop_nil, List.take_nil, Nat.le_refl, Nat.reduceMul, List.set_cons_zero, List.set_cons_succ, LV.scalar, List.all_cons, List.all_nil, Nat.lt_add_one, Nat.zero_lt_one, Nat.reduceLT, Nat.lt_irrefl, fillL, List.length_append, foldIntL, kind_beq, pures_int, solids_int, plains_int, unders_int, scalars_int, hc, h1, h2', hl, he, ht, Nat.zero_add]
      · rw [if_neg h3] at hl
        rw [if_neg h3]
        have hd : decide (ordE (rs.length : Int) [] o ≠ 0) = true := by simpa using h3
        refine call_P lp_share_Turns rfl (by simp [LV.pures, LV.pure]) (m1 := []) ?_ (by simp [LV.pures, LV.pure]) m
        simp only [share_Turns, share_Turns.B, beqT, beqF, exF_seq, exF_region, exF_block, exF_cond, exF_ret, exF_exit, exF_skip, runL, wantL, stepL, evL, evC, LEnv.at, putL, loadFine, loadL, cellsAt, Trk.putNew, Trk.up, Trk.touch, Trk.gives, Trk.calm, Trk.hit, opdsOf, Trk.fresh, LEnv.keep, LEnv.ofFrom, List.map_cons, List.map_nil, nbeq, nble, nblt, ofAV, ofAVs, lenL, bin_add, bin_sub, bin_mul, bin_eql, bin_neq, bin_lss, bin_leq, bin_gtr, bin_geq, natL_nat, natL_zero, natL_one, natL_two, Nat.zero_mul, List.any_cons, List.any_nil, Bool.or_false, Bool.false_or, Bool.true_or, Bool.or_true, Bool.and_true, Bool.true_and, Bool.and_false, Bool.false_and, Bool.not_true, Bool.not_false, Nat.reduceBEq, Nat.reduceEqDiff, decide_true, decide_false, cond_true, cond_false, List.filter_nil, List.filter_cons, Nat.reduceAdd, Nat.reduceLeDiff, reduceCtorEq, List.length_nil, List.length_cons, Nat.mul_one, if_true, if_false, Bool.false_eq_true, eq_self, and_true, true_and, retL, resultsL, resAllL, resOfL, List.append_nil, List.nil_append, List.cons_append, true_or, or_true, false_or, or_false, false_and, and_false, not_true_eq_false, not_false_eq_true, ne_eq, unL, trim_nil, views_pures, LV.pures, LV.pure, freeze, Nat.reduceDiv, Int.reduceEq, Int.reduceLT, Int.reduceLE, Int.natCast_zero, LV.cells, allocL, List.getElem?_cons_zero, List.getElem?_cons_succ, storeL, spliceL, List.take_zero, List.take_succ_cons, List.drop_zero, List.drop_succ_cons, List.drop_nil, List.take_nil, Nat.le_refl, Nat.reduceMul, List.set_cons_zero, List.set_cons_succ, LV.scalar, List.all_cons, List.all_nil, Nat.lt_add_one, Nat.zero_lt_one, Nat.reduceLT, Nat.lt_irrefl, fillL, List.length_append, foldIntL, kind_beq, pures_int, solids_int, plains_int, unders_int, scalars_int, hc, h1, h2', hl, h3]
        rw [RT_err _ h3]
    · have h2' : ¬ ((o.length : Int) = rs.length) := by omega
      rw [if_pos (by simpa using h2)]
      refine call_P lp_share_Turns rfl (by simp [LV.pures, LV.pure]) (m1 := []) ?_ (by simp [LV.pures, LV.pure]) m
      simp only [share_Turns, share_Turns.B, beqT, beqF, exF_seq, exF_region, exF_block, exF_cond, exF_ret, exF_exit, exF_skip, runL, wantL, stepL, evL, evC, LEnv.at, putL, loadFine, loadL, cellsAt, Trk.putNew, Trk.up, Trk.touch, Trk.gives, Trk.calm, Trk.hit, opdsOf, Trk.fresh, LEnv.keep, LEnv.ofFrom, List.map_cons, List.map_nil, nbeq, nble, nblt, ofAV, ofAVs, lenL, bin_add, bin_sub, bin_mul, bin_eql, bin_neq, bin_lss, bin_leq, bin_gtr, bin_geq, natL_nat, natL_zero, natL_one, natL_two, Nat.zero_mul, List.any_cons, List.any_nil, Bool.or_false, Bool.false_or, Bool.true_or, Bool.or_true, Bool.and_true, Bool.true_and, Bool.and_false, Bool.false_and, Bool.not_true, Bool.not_false, Nat.reduceBEq, Nat.reduceEqDiff, decide_true, decide_false, cond_true, cond_false, List.filter_nil, List.filter_cons, Nat.reduceAdd, Nat.reduceLeDiff, reduceCtorEq, List.length_nil, List.length_cons, Nat.mul_one, if_true, if_false, Bool.false_eq_true, eq_self, and_true, true_and, retL, resultsL, resAllL, resOfL, List.append_nil, List.nil_append, List.cons_append, true_or, or_true, false_or, or_false, false_and, and_false, not_true_eq_false, not_false_eq_true, ne_eq, unL, trim_nil, views_pures, LV.pures, LV.pure, freeze, Nat.reduceDiv, Int.reduceEq, Int.reduceLT, Int.reduceLE, Int.natCast_zero, LV.cells, allocL, List.getElem?_cons_zero, List.getElem?_cons_succ, storeL, spliceL, List.take_zero, List.take_succ_cons, List.drop_zero, List.drop_succ_cons, List.drop_nil, List.take_nil, Nat.le_refl, Nat.reduceMul, List.set_cons_zero, List.set_cons_succ, LV.scalar, List.all_cons, List.all_nil, Nat.lt_add_one, Nat.zero_lt_one, Nat.reduceLT, Nat.lt_irrefl, fillL, List.length_append, foldIntL, kind_beq, pures_int, solids_int, plains_int, unders_int, scalars_int, hc, h1, h2']
      rw [RT_err _ (by omega)]
  · rw [if_pos (by simpa using h1)]
    refine call_P lp_share_Turns rfl (by simp [LV.pures, LV.pure]) (m1 := []) ?_ (by simp [LV.pures, LV.pure]) m
    simp only [share_Turns, share_Turns.B, beqT, beqF, exF_seq, exF_region, exF_block, exF_cond, exF_ret, exF_exit, exF_skip, runL, wantL, stepL, evL, evC, LEnv.at, putL, loadFine, loadL, cellsAt, Trk.putNew, Trk.up, Trk.touch, Trk.gives, Trk.calm, Trk.hit, opdsOf, Trk.fresh, LEnv.keep, LEnv.ofFrom, List.map_cons, List.map_nil, nbeq, nble, nblt, ofAV, ofAVs, lenL, bin_add, bin_sub, bin_mul, bin_eql, bin_neq, bin_lss, bin_leq, bin_gtr, bin_geq, natL_nat, natL_zero, natL_one, natL_two, Nat.zero_mul, List.any_cons, List.any_nil, Bool.or_false, Bool.false_or, Bool.true_or, Bool.or_true, Bool.and_true, Bool.true_and, Bool.and_false, Bool.false_and, Bool.not_true, Bool.not_false, Nat.reduceBEq, Nat.reduceEqDiff, decide_true, decide_false, cond_true, cond_false, List.filter_nil, List.filter_cons, Nat.reduceAdd, Nat.reduceLeDiff, reduceCtorEq, List.length_nil, List.length_cons, Nat.mul_one, if_true, if_false, Bool.false_eq_true, eq_self, and_true, true_and, retL, resultsL, resAllL, resOfL, List.append_nil, List.nil_append, List.cons_append, true_or, or_true, false_or, or_false, false_and, and_false, not_true_eq_false, not_false_eq_true, ne_eq, unL, trim_nil, views_pures, LV.pures, LV.pure, freeze, Nat.reduceDiv, Int.reduceEq, Int.reduceLT, Int.reduceLE, Int.natCast_zero, LV.cells, allocL, List.getElem?_cons_zero, List.getElem?_cons_succ, storeL, spliceL, List.take_zero, List.take_succ_cons, List.drop_zero, List.drop_succ_cons, List.drop_nil, List.take_nil, Nat.le_refl, Nat.reduceMul, List.set_cons_zero, List.set_cons_succ, LV.scalar, List.all_cons, List.all_nil, Nat.lt_add_one, Nat.zero_lt_one, Nat.reduceLT, Nat.lt_irrefl, fillL, List.length_append, foldIntL, kind_beq, pures_int, solids_int, plains_int, unders_int, scalars_int, hc, h1]
    rw [RT_err _ h1]
end Share
end Go.Am

/-
  Plain: rings of envy are turned; the sum of all own worths becomes greater.
-/
set_option linter.unusedVariables false
set_option linter.unusedSimpArgs false
namespace Go.Am.Share

structure WOk (e : Int → Int) (N : Nat) (l : List Int) (w : Int) : Prop where
  nd : l.Nodup
  rng : ∀ x ∈ l, 0 ≤ x ∧ x < (N : Int)
  w0 : 0 ≤ w ∧ w < (N : Int)
  chain : ∀ i, i + 1 < l.length → l.getD (i + 1) 0 = e (l.getD i 0)
  last : l ≠ [] → w = e (l.getD (l.length - 1) 0)
theorem WOk.step {e : Int → Int} {N : Nat} (he : ∀ x, 0 ≤ x → x < (N : Int) → 0 ≤ e x ∧ e x < (N : Int)) {l : List Int} {w : Int} (H : WOk e N l w) (hw : ¬ w ∈ l) : WOk e N (l ++ [w]) (e w) := by
  refine ⟨?_, ?_, he w H.w0.1 H.w0.2, ?_, ?_⟩
  · rw [List.nodup_append]
    refine ⟨H.nd, by simp, ?_⟩
    intro a ha b hb
    simp at hb
    subst hb
    intro c; subst c; exact hw ha
  · intro x hx
    rcases List.mem_append.1 hx with c | c
    · exact H.rng x c
    · simp at c; subst c; exact H.w0
  · intro i hi
    simp only [List.length_append, List.length_cons, List.length_nil] at hi
    by_cases h2 : i + 1 < l.length
    · have := H.chain i h2
      simp only [List.getD_eq_getElem?_getD] at this ⊢
      rw [List.getElem?_append_left h2, List.getElem?_append_left (by omega)]
      exact this
    · have h3 : i + 1 = l.length := by omega
      have hne : l ≠ [] := by intro c; subst c; simp at h3
      have := H.last hne
      simp only [List.getD_eq_getElem?_getD] at this ⊢
      rw [List.getElem?_append_left (show i < l.length by omega), List.getElem?_append_right (by omega), h3]
      simp only [Nat.sub_self, List.getElem?_cons_zero, Option.getD_some]
      rw [this]
      rw [show l.length - 1 = i by omega]
  · intro _
    simp [List.getD_eq_getElem?_getD]
/-- A ring: each one is followed by who envies this one. -/
structure ROk (e : Int → Int) (N : Nat) (l : List Int) : Prop where
  ne : l ≠ []
  nd : l.Nodup
  rng : ∀ x ∈ l, 0 ≤ x ∧ x < (N : Int)
  nxt : ∀ i, i < l.length → l.getD ((i + 1) % l.length) 0 = e (l.getD i 0)
def sumN (f : Nat → Int) : Nat → Int
  | 0 => 0
  | n + 1 => sumN f n + f n
def ownS (V : List (List Int)) (o : List Int) : Int := sumN (fun i => ws (i : Int) (V.getD i []) o 0) V.length
theorem ownS_le {V : List (List Int)} {o : List Int} (h20 : ∀ i, i < V.length → Ok20 (V.getD i [])) (hl : ∀ i, i < V.length → (V.getD i []).length ≤ 6) (h4 : V.length ≤ 4) : 0 ≤ ownS V o ∧ ownS V o ≤ 480 := by
  have hb : ∀ i, i < V.length → 0 ≤ ws (i : Int) (V.getD i []) o 0 ∧ ws (i : Int) (V.getD i []) o 0 ≤ 120 := fun i hi => by
    have := ws_bound (i : Int) (V.getD i []) o 0 (h20 i hi) (by omega)
    have := hl i hi
    omega
  have : ∀ n, n ≤ V.length → 0 ≤ sumN (fun i => ws (i : Int) (V.getD i []) o 0) n ∧ sumN (fun i => ws (i : Int) (V.getD i []) o 0) n ≤ 120 * n := by
    intro n
    induction n with
    | zero => intro _; simp [sumN]
    | succ n ih =>
      intro hn
      have := ih (by omega)
      have := hb n (by omega)
      simp only [sumN]; omega
  have := this V.length (by omega)
  unfold ownS
  omega
end Go.Am.Share


