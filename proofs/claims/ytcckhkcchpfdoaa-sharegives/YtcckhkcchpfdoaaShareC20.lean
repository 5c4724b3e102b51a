/-
  What functions of chapter 07 compute, 20: the program's divisions one after the other.
-/
import Derived.Test.YtcckhkcchpfdoaaShareC18
set_option linter.unusedVariables false
set_option linter.unusedSimpArgs false
set_option maxRecDepth 10000
namespace Go.Am.Share
theorem DOk.of_len {rs : List Row} {o o' : List Int} (D : DOk rs o) (h : o'.length = o.length) : DOk rs o' :=
  ⟨D.pos, D.le4, fun i hi => by rw [h]; exact D.len i hi, D.ok, by rw [h]; exact D.le6⟩
theorem turnI_length (V : List (List Int)) (o : List Int) : (turnI V o).length = o.length := by simp [turnI, turnedBy]
theorem settle_length (V : List (List Int)) : ∀ (n : Nat) (o : List Int), (settle V n o).length = o.length
  | 0, o => rfl
  | n + 1, o => by
    rw [settle]
    split
    · rw [settle_length V n, turnI_length]
    · rfl
theorem ringsI_length (V : List (List Int)) : ∀ (n k : Nat) (o : List Int), (ringsI V n k o).length = o.length
  | 0, _, o => rfl
  | n + 1, k, o => by rw [ringsI, ringsI_length V n, List.length_set, settle_length]
theorem DOk.own {rs : List Row} {o : List Int} (D : DOk rs o) : 0 ≤ ownS (vals rs) o ∧ ownS (vals rs) o ≤ 480 := by
  have h6 := D.le6
  refine ownS_le ?_ ?_ (by rw [vals_length]; exact D.le4)
  · intro i hi
    rw [vals_length] at hi
    rw [vals_at rs i hi]; exact D.ok i hi
  · intro i hi
    rw [vals_length] at hi
    rw [vals_at rs i hi, ← D.len i hi]; exact h6
theorem settle_loop (nl ex : Bool) (sz : Nat) {rs : List Row} (k L : Int) (n : Nat) : ∀ (o : List Int), DOk rs o → 480 - ownS (vals rs) o < n →
    exF LP share_Rings.L0 [(5, .ptr 2 0 2), (6, .int .i64 k), (7, .int .i64 (calmI (vals rs) o)), (17, .int .i64 L), (18, .int .i64 k)] (TM (VL nl ex sz rs) o) =
      some (.exit 2, [(5, .ptr 2 0 2), (6, .int .i64 k), (7, .int .i64 (calmI (vals rs) (settle (vals rs) n o))), (17, .int .i64 L), (18, .int .i64 k)], TM (VL nl ex sz rs) (settle (vals rs) n o)) := by
  induction n with
  | zero => intro o D h; have := D.own; omega
  | succ n ih =>
    intro o D h
    rw [share_Rings.L0_eq, settle]
    by_cases hc : calmI (vals rs) o = -1
    · rw [if_pos hc]
      have D2 := D.of_len (turnI_length (vals rs) o)
      have hlt := ownS_lt (by rw [vals_length]; exact D.pos) hc
      have ih := ih (turnI (vals rs) o) D2 (by omega)
      have ht := turn_c nl ex sz D hc
      have hm := calm_m nl ex sz D2 (m := TM (VL nl ex sz rs) (turnI (vals rs) o)) (i := 1) (b := true) rfl rfl
      simp only [TM, turnI_length] at ht hm ih ⊢
      simp only [share_Rings.B0, beqT, beqF, exF_seq, exF_region, exF_block, exF_cond, exF_ret, exF_exit, exF_skip, runL, wantL, stepL, evL, LEnv.at, putL, loadFine, loadL, cellsAt, Trk.putNew, Trk.up, Trk.touch, Trk.gives, Trk.calm, Trk.hit, opdsOf, Trk.fresh, LEnv.keep, LEnv.ofFrom, List.map_cons, List.map_nil, nbeq, nble, nblt, ofAV, ofAVs, lenL, bin_add, bin_sub, bin_mul, bin_eql, bin_neq, bin_lss, bin_leq, bin_gtr, bin_geq, natL_nat, natL_zero, natL_one, natL_two, Nat.zero_mul, List.any_cons, List.any_nil, Bool.or_false, Bool.false_or, Bool.true_or, Bool.or_true, Bool.and_true, Bool.true_and, Bool.and_false, Bool.false_and, Bool.not_true, Bool.not_false, Nat.reduceBEq, Nat.reduceEqDiff, decide_true, decide_false, cond_true, cond_false, List.filter_nil, List.filter_cons, Nat.reduceAdd, Nat.reduceLeDiff, reduceCtorEq, List.length_nil, List.length_cons, Nat.mul_one, if_true, if_false, Bool.false_eq_true, eq_self, and_true, true_and, retL, resultsL, resAllL, resOfL, List.append_nil, List.nil_append, List.cons_append, true_or, or_true, false_or, or_false, false_and, and_false, not_true_eq_false, not_false_eq_true, ne_eq, unL, trim_nil, views_pures, LV.pures, LV.pure, freeze, Nat.reduceDiv, Int.reduceEq, Int.reduceLT, Int.reduceLE, Int.natCast_zero, LV.cells, allocL, List.getElem?_cons_zero, List.getElem?_cons_succ, storeL, spliceL, List.take_zero, List.take_succ_cons, List.drop_zero, List.drop_succ_cons, List.drop_nil, List.take_nil, Nat.le_refl, Nat.reduceMul, List.set_cons_zero, List.set_cons_succ, LV.scalar, List.all_cons, List.all_nil, Nat.lt_add_one, Nat.zero_lt_one, Nat.lt_irrefl, fillL, List.length_append, foldIntL, kind_beq, pures_int, solids_int, plains_int, unders_int, scalars_int, hc, ht, hm, ih]
    · rw [if_neg hc]
      simp only [share_Rings.B0, beqT, beqF, exF_seq, exF_region, exF_block, exF_cond, exF_ret, exF_exit, exF_skip, runL, wantL, stepL, evL, LEnv.at, putL, loadFine, loadL, cellsAt, Trk.putNew, Trk.up, Trk.touch, Trk.gives, Trk.calm, Trk.hit, opdsOf, Trk.fresh, LEnv.keep, LEnv.ofFrom, List.map_cons, List.map_nil, nbeq, nble, nblt, ofAV, ofAVs, lenL, bin_add, bin_sub, bin_mul, bin_eql, bin_neq, bin_lss, bin_leq, bin_gtr, bin_geq, natL_nat, natL_zero, natL_one, natL_two, Nat.zero_mul, List.any_cons, List.any_nil, Bool.or_false, Bool.false_or, Bool.true_or, Bool.or_true, Bool.and_true, Bool.true_and, Bool.and_false, Bool.false_and, Bool.not_true, Bool.not_false, Nat.reduceBEq, Nat.reduceEqDiff, decide_true, decide_false, cond_true, cond_false, List.filter_nil, List.filter_cons, Nat.reduceAdd, Nat.reduceLeDiff, reduceCtorEq, List.length_nil, List.length_cons, Nat.mul_one, if_true, if_false, Bool.false_eq_true, eq_self, and_true, true_and, retL, resultsL, resAllL, resOfL, List.append_nil, List.nil_append, List.cons_append, true_or, or_true, false_or, or_false, false_and, and_false, not_true_eq_false, not_false_eq_true, ne_eq, unL, trim_nil, views_pures, LV.pures, LV.pure, freeze, Nat.reduceDiv, Int.reduceEq, Int.reduceLT, Int.reduceLE, Int.natCast_zero, LV.cells, allocL, List.getElem?_cons_zero, List.getElem?_cons_succ, storeL, spliceL, List.take_zero, List.take_succ_cons, List.drop_zero, List.drop_succ_cons, List.drop_nil, List.take_nil, Nat.le_refl, Nat.reduceMul, List.set_cons_zero, List.set_cons_succ, LV.scalar, List.all_cons, List.all_nil, Nat.lt_add_one, Nat.zero_lt_one, Nat.lt_irrefl, fillL, List.length_append, foldIntL, kind_beq, pures_int, solids_int, plains_int, unders_int, scalars_int, hc]
theorem rings_loop (nl ex : Bool) (sz : Nat) {rs : List Row} (n : Nat) : ∀ (k : Nat) (o : List Int), DOk rs o → k + n = o.length →
    exF LP share_Rings.L1 [(5, .ptr 2 0 2), (17, .int .i64 (o.length : Int)), (18, .int .i64 (k : Int))] (TM (VL nl ex sz rs) o) =
      some (.exit 0, [(5, .ptr 2 0 2)], TM (VL nl ex sz rs) (ringsI (vals rs) n k o)) := by
  induction n with
  | zero =>
    intro k o D hk
    rw [share_Rings.L1_eq]
    simp only [share_Rings.B1, beqT, beqF, exF_seq, exF_region, exF_block, exF_cond, exF_ret, exF_exit, exF_skip, runL, wantL, stepL, evL, LEnv.at, putL, loadFine, loadL, cellsAt, Trk.putNew, Trk.up, Trk.touch, Trk.gives, Trk.calm, Trk.hit, opdsOf, Trk.fresh, LEnv.keep, LEnv.ofFrom, List.map_cons, List.map_nil, nbeq, nble, nblt, ofAV, ofAVs, lenL, bin_add, bin_sub, bin_mul, bin_eql, bin_neq, bin_lss, bin_leq, bin_gtr, bin_geq, natL_nat, natL_zero, natL_one, natL_two, Nat.zero_mul, List.any_cons, List.any_nil, Bool.or_false, Bool.false_or, Bool.true_or, Bool.or_true, Bool.and_true, Bool.true_and, Bool.and_false, Bool.false_and, Bool.not_true, Bool.not_false, Nat.reduceBEq, Nat.reduceEqDiff, decide_true, decide_false, cond_true, cond_false, List.filter_nil, List.filter_cons, Nat.reduceAdd, Nat.reduceLeDiff, reduceCtorEq, List.length_nil, List.length_cons, Nat.mul_one, if_true, if_false, Bool.false_eq_true, eq_self, and_true, true_and, retL, resultsL, resAllL, resOfL, List.append_nil, List.nil_append, List.cons_append, true_or, or_true, false_or, or_false, false_and, and_false, not_true_eq_false, not_false_eq_true, ne_eq, unL, trim_nil, views_pures, LV.pures, LV.pure, freeze, Nat.reduceDiv, Int.reduceEq, Int.reduceLT, Int.reduceLE, Int.natCast_zero, LV.cells, allocL, List.getElem?_cons_zero, List.getElem?_cons_succ, storeL, spliceL, List.take_zero, List.take_succ_cons, List.drop_zero, List.drop_succ_cons, List.drop_nil, List.take_nil, Nat.le_refl, Nat.reduceMul, List.set_cons_zero, List.set_cons_succ, LV.scalar, List.all_cons, List.all_nil, Nat.lt_add_one, Nat.zero_lt_one, Nat.lt_irrefl, fillL, List.length_append, foldIntL, kind_beq, pures_int, solids_int, plains_int, unders_int, scalars_int, show ¬ ((k : Int) < (o.length : Int)) by omega, ringsI]
  | succ n ih =>
    intro k o D hk
    have h6 := D.le6
    have hs := settle_loop nl ex sz (k : Int) (o.length : Int) 500 o D (by have := D.own; omega)
    have hm := calm_m nl ex sz D (m := TM (VL nl ex sz rs) o) (i := 1) (b := true) rfl rfl
    have hsl := settle_length (vals rs) 500 o
    have D3 := D.of_len hsl
    rw [share_Rings.L1_eq, ringsI]
    generalize settle (vals rs) 500 o = q at *
    have hkq : k < q.length := by omega
    have hko : k < o.length := by omega
    have hset : (q.set k (calmI (vals rs) q)).length = o.length := by simp [hsl]
    have ih := ih (k + 1) (q.set k (calmI (vals rs) q)) (D.of_len hset) (by omega)
    simp only [TM, hset, hsl] at ih hs hm ⊢
    simp only [share_Rings.B1, beqT, beqF, exF_seq, exF_region, exF_block, exF_cond, exF_ret, exF_exit, exF_skip, runL, wantL, stepL, evL, LEnv.at, putL, loadFine, loadL, cellsAt, Trk.putNew, Trk.up, Trk.touch, Trk.gives, Trk.calm, Trk.hit, opdsOf, Trk.fresh, LEnv.keep, LEnv.ofFrom, List.map_cons, List.map_nil, nbeq, nble, nblt, ofAV, ofAVs, lenL, bin_add, bin_sub, bin_mul, bin_eql, bin_neq, bin_lss, bin_leq, bin_gtr, bin_geq, natL_nat, natL_zero, natL_one, natL_two, Nat.zero_mul, List.any_cons, List.any_nil, Bool.or_false, Bool.false_or, Bool.true_or, Bool.or_true, Bool.and_true, Bool.true_and, Bool.and_false, Bool.false_and, Bool.not_true, Bool.not_false, Nat.reduceBEq, Nat.reduceEqDiff, decide_true, decide_false, cond_true, cond_false, List.filter_nil, List.filter_cons, Nat.reduceAdd, Nat.reduceLeDiff, reduceCtorEq, List.length_nil, List.length_cons, Nat.mul_one, if_true, if_false, Bool.false_eq_true, eq_self, and_true, true_and, retL, resultsL, resAllL, resOfL, List.append_nil, List.nil_append, List.cons_append, true_or, or_true, false_or, or_false, false_and, and_false, not_true_eq_false, not_false_eq_true, ne_eq, unL, trim_nil, views_pures, LV.pures, LV.pure, freeze, Nat.reduceDiv, Int.reduceEq, Int.reduceLT, Int.reduceLE, Int.natCast_zero, LV.cells, allocL, List.getElem?_cons_zero, List.getElem?_cons_succ, storeL, spliceL, List.take_zero, List.take_succ_cons, List.drop_zero, List.drop_succ_cons, List.drop_nil, List.take_nil, Nat.le_refl, Nat.reduceMul, List.set_cons_zero, List.set_cons_succ, LV.scalar, List.all_cons, List.all_nil, Nat.lt_add_one, Nat.zero_lt_one, Nat.lt_irrefl, fillL, List.length_append, foldIntL, kind_beq, pures_int, solids_int, plains_int, unders_int, scalars_int, show ((k : Int) < (o.length : Int)) by omega, hm, hs, hkq, hko, Nat.zero_add, List.length_map, hsl, set_int _ _ _ _ hkq, show k + 1 ≤ o.length by omega, wrap_succ (show k + 1 < 9223372036854775808 by omega), ih]
def ringsV (V : List (List Int)) : List Int := if chkV V = 0 then ringsI V (V.getD 0 []).length 0 (nones (V.getD 0 []).length) else []
theorem ringsP_c (nl ex : Bool) (sz : Nat) (rs : List Row) (hl : rs.length < 1000000) (hr : ∀ r ∈ rs, r.l.length < 1000000) (m : LMem) : clF LP n_share_Rings [VL nl ex sz rs] m = some (.P, RT (chkV (vals rs)) (ringsV (vals rs)), m) := by
  have hc := fun m => check_c nl ex sz rs hl hr m
  unfold ringsV
  by_cases h1 : chkV (vals rs) = 0
  · have D := vok_of h1
    obtain ⟨k1, k2, k3, k4, k5⟩ := D
    rw [vals0 rs k1] at *
    rw [if_pos h1]
    have he := fun m => empty_c nl ex sz rs k1 k5 m
    have hn : (nones rs[0].l.length).length = rs[0].l.length := by simp [nones]
    have D : DOk rs (nones rs[0].l.length) := ⟨k1, k2, fun i hi => by rw [hn, k3 i hi], k4, by rw [hn]; exact k5⟩
    have ht := rings_loop nl ex sz rs[0].l.length 0 (nones rs[0].l.length) D (by rw [hn]; omega)
    have htl := ringsI_length (vals rs) rs[0].l.length 0 (nones rs[0].l.length)
    rw [hn] at htl
    generalize ringsI (vals rs) rs[0].l.length 0 (nones rs[0].l.length) = r at *
    simp only [TM, hn, htl, Int.natCast_zero] at ht
    have hv := view_slp [⟨[VL nl ex sz rs, SLo 1 rs[0].l.length], true⟩, ⟨r.map (LV.int .i64), true⟩, ⟨[VL nl ex sz rs, SLo 1 rs[0].l.length], true⟩] 1 r true 0 rfl
    rw [htl] at hv
    rw [h1]
    refine call_Pv lp_share_Rings rfl (by simp [LV.pures, LV.pure]) ?_ hv m
    simp only [share_Rings, share_Rings.B, beqT, beqF, exF_seq, exF_region, exF_block, exF_cond, exF_ret, exF_exit, exF_skip, runL, wantL, stepL, evL, LEnv.at, putL, loadFine, loadL, cellsAt, Trk.putNew, Trk.up, Trk.touch, Trk.gives, Trk.calm, Trk.hit, opdsOf, Trk.fresh, LEnv.keep, LEnv.ofFrom, List.map_cons, List.map_nil, nbeq, nble, nblt, ofAV, ofAVs, lenL, bin_add, bin_sub, bin_mul, bin_eql, bin_neq, bin_lss, bin_leq, bin_gtr, bin_geq, natL_nat, natL_zero, natL_one, natL_two, Nat.zero_mul, List.any_cons, List.any_nil, Bool.or_false, Bool.false_or, Bool.true_or, Bool.or_true, Bool.and_true, Bool.true_and, Bool.and_false, Bool.false_and, Bool.not_true, Bool.not_false, Nat.reduceBEq, Nat.reduceEqDiff, decide_true, decide_false, cond_true, cond_false, List.filter_nil, List.filter_cons, Nat.reduceAdd, Nat.reduceLeDiff, reduceCtorEq, List.length_nil, List.length_cons, Nat.mul_one, if_true, if_false, Bool.false_eq_true, eq_self, and_true, true_and, retL, resultsL, resAllL, resOfL, List.append_nil, List.nil_append, List.cons_append, true_or, or_true, false_or, or_false, false_and, and_false, not_true_eq_false, not_false_eq_true, ne_eq, unL, trim_nil, views_pures, LV.pures, LV.pure, freeze, Nat.reduceDiv, Int.reduceEq, Int.reduceLT, Int.reduceLE, Int.natCast_zero, LV.cells, allocL, List.getElem?_cons_zero, List.getElem?_cons_succ, storeL, spliceL, List.take_zero, List.take_succ_cons, List.drop_zero, List.drop_succ_cons, List.drop_nil, List.take_nil, Nat.le_refl, Nat.reduceMul, List.set_cons_zero, List.set_cons_succ, LV.scalar, List.all_cons, List.all_nil, Nat.lt_add_one, Nat.zero_lt_one, Nat.lt_irrefl, fillL, List.length_append, foldIntL, kind_beq, pures_int, solids_int, plains_int, unders_int, scalars_int, hc, h1, he, ht, Nat.zero_add]
  · rw [if_neg h1]
    refine call_P lp_share_Rings rfl (by simp [LV.pures, LV.pure]) (m1 := []) ?_ (by simp [LV.pures, LV.pure]) m
    simp only [share_Rings, share_Rings.B, beqT, beqF, exF_seq, exF_region, exF_block, exF_cond, exF_ret, exF_exit, exF_skip, runL, wantL, stepL, evL, LEnv.at, putL, loadFine, loadL, cellsAt, Trk.putNew, Trk.up, Trk.touch, Trk.gives, Trk.calm, Trk.hit, opdsOf, Trk.fresh, LEnv.keep, LEnv.ofFrom, List.map_cons, List.map_nil, nbeq, nble, nblt, ofAV, ofAVs, lenL, bin_add, bin_sub, bin_mul, bin_eql, bin_neq, bin_lss, bin_leq, bin_gtr, bin_geq, natL_nat, natL_zero, natL_one, natL_two, Nat.zero_mul, List.any_cons, List.any_nil, Bool.or_false, Bool.false_or, Bool.true_or, Bool.or_true, Bool.and_true, Bool.true_and, Bool.and_false, Bool.false_and, Bool.not_true, Bool.not_false, Nat.reduceBEq, Nat.reduceEqDiff, decide_true, decide_false, cond_true, cond_false, List.filter_nil, List.filter_cons, Nat.reduceAdd, Nat.reduceLeDiff, reduceCtorEq, List.length_nil, List.length_cons, Nat.mul_one, if_true, if_false, Bool.false_eq_true, eq_self, and_true, true_and, retL, resultsL, resAllL, resOfL, List.append_nil, List.nil_append, List.cons_append, true_or, or_true, false_or, or_false, false_and, and_false, not_true_eq_false, not_false_eq_true, ne_eq, unL, trim_nil, views_pures, LV.pures, LV.pure, freeze, Nat.reduceDiv, Int.reduceEq, Int.reduceLT, Int.reduceLE, Int.natCast_zero, LV.cells, allocL, List.getElem?_cons_zero, List.getElem?_cons_succ, storeL, spliceL, List.take_zero, List.take_succ_cons, List.drop_zero, List.drop_succ_cons, List.drop_nil, List.take_nil, Nat.le_refl, Nat.reduceMul, List.set_cons_zero, List.set_cons_succ, LV.scalar, List.all_cons, List.all_nil, Nat.lt_add_one, Nat.zero_lt_one, Nat.lt_irrefl, fillL, List.length_append, foldIntL, kind_beq, pures_int, solids_int, plains_int, unders_int, scalars_int, hc, h1]
    rw [RT_err _ h1]
end Go.Am.Share
