import Derived.Test.YtcckhkcchpfdoaaShareC21
import Derived.Test.YtcckhkcchpfdoaaShareC12
/-
  What functions of chapter 07 compute, 22: the reference's divisions one after the other.
-/
set_option linter.unusedVariables false
set_option linter.unusedSimpArgs false
set_option maxRecDepth 10000
namespace Go.Am.Share
theorem rsettle_loop (nl ex : Bool) (sz : Nat) {rs : List Row} (k : Int) (L : Nat) (n : Nat) : ∀ (o : List Int) (m : LMem) (b g : Nat), DOk rs o → o.length = L → 480 - ownS (vals rs) o < n → m[b]? = some ⟨o.map (LV.int .i64), true⟩ →
    ∃ b' g' m', m'[b']? = some ⟨(settle (vals rs) n o).map (LV.int .i64), true⟩ ∧
    exF LP ref07_Rings.L1 [(0, VL nl ex sz rs), (5, .sl b 0 L L g 1 L), (7, .int .i64 k)] m =
      some (.exit 4, [(0, VL nl ex sz rs), (5, .sl b' 0 L L g' 1 L), (7, .int .i64 k)], m') := by
  induction n with
  | zero => intro o m b g D hL h; have := D.own; omega
  | succ n ih =>
    intro o m b g D hL h hb
    have hm := rcalm_m nl ex sz D (g := g) hb hL
    have hge := calmI_ge (vals rs) o
    rw [ref07_Rings.L1_eq, settle]
    by_cases hc : calmI (vals rs) o = -1
    · rw [if_pos hc]
      have D2 := D.of_len (turnI_length (vals rs) o)
      have hlt := ownS_lt (by rw [vals_length]; exact D.pos) hc
      obtain ⟨l, ht⟩ := turned_m nl ex sz D hc (g := g) hb
      rw [hL] at ht
      have hb2 : (m ++ QM l (turnI (vals rs) o))[m.length + 1]? = some ⟨(turnI (vals rs) o).map (LV.int .i64), true⟩ := by
        rw [List.getElem?_append_right (by omega)]; simp
      obtain ⟨b', g', m', q1, q2⟩ := ih (turnI (vals rs) o) _ (m.length + 1) 1 D2 (by rw [turnI_length, hL]) (by omega) hb2
      refine ⟨b', g', m', q1, ?_⟩
      simp only [ref07_Rings.B1, beqT, beqF, exF_seq, exF_region, exF_block, exF_cond, exF_ret, exF_exit, exF_skip, runL, wantL, stepL, evL, LEnv.at, putL, loadFine, loadL, cellsAt, Trk.putNew, Trk.up, Trk.touch, Trk.gives, Trk.calm, Trk.hit, opdsOf, Trk.fresh, LEnv.keep, LEnv.ofFrom, List.map_cons, List.map_nil, nbeq, nble, nblt, ofAV, ofAVs, lenL, bin_add, bin_sub, bin_mul, bin_eql, bin_neq, bin_lss, bin_leq, bin_gtr, bin_geq, natL_nat, natL_zero, natL_one, natL_two, Nat.zero_mul, List.any_cons, List.any_nil, Bool.or_false, Bool.false_or, Bool.true_or, Bool.or_true, Bool.and_true, Bool.true_and, Bool.and_false, Bool.false_and, Bool.not_true, Bool.not_false, Nat.reduceBEq, Nat.reduceEqDiff, decide_true, decide_false, cond_true, cond_false, List.filter_nil, List.filter_cons, Nat.reduceAdd, Nat.reduceLeDiff, reduceCtorEq, List.length_nil, List.length_cons, Nat.mul_one, if_true, if_false, Bool.false_eq_true, eq_self, and_true, true_and, retL, resultsL, resAllL, resOfL, List.append_nil, List.nil_append, List.cons_append, true_or, or_true, false_or, or_false, false_and, and_false, not_true_eq_false, not_false_eq_true, ne_eq, unL, trim_nil, views_pures, LV.pures, LV.pure, freeze, Nat.reduceDiv, Int.reduceEq, Int.reduceLT, Int.reduceLE, Int.natCast_zero, LV.cells, allocL, List.getElem?_cons_zero, List.getElem?_cons_succ, storeL, spliceL, List.take_zero, List.take_succ_cons, List.drop_zero, List.drop_succ_cons, List.drop_nil, List.take_nil, Nat.le_refl, Nat.reduceMul, List.set_cons_zero, List.set_cons_succ, LV.scalar, List.all_cons, List.all_nil, Nat.lt_add_one, Nat.zero_lt_one, Nat.lt_irrefl, fillL, List.length_append, foldIntL, kind_beq, pures_int, solids_int, plains_int, unders_int, scalars_int, hm, hc, ht, q2]
    · rw [if_neg hc]
      have hn : ¬ (calmI (vals rs) o < 0) := by omega
      refine ⟨b, g, m, hb, ?_⟩
      simp only [ref07_Rings.B1, beqT, beqF, exF_seq, exF_region, exF_block, exF_cond, exF_ret, exF_exit, exF_skip, runL, wantL, stepL, evL, LEnv.at, putL, loadFine, loadL, cellsAt, Trk.putNew, Trk.up, Trk.touch, Trk.gives, Trk.calm, Trk.hit, opdsOf, Trk.fresh, LEnv.keep, LEnv.ofFrom, List.map_cons, List.map_nil, nbeq, nble, nblt, ofAV, ofAVs, lenL, bin_add, bin_sub, bin_mul, bin_eql, bin_neq, bin_lss, bin_leq, bin_gtr, bin_geq, natL_nat, natL_zero, natL_one, natL_two, Nat.zero_mul, List.any_cons, List.any_nil, Bool.or_false, Bool.false_or, Bool.true_or, Bool.or_true, Bool.and_true, Bool.true_and, Bool.and_false, Bool.false_and, Bool.not_true, Bool.not_false, Nat.reduceBEq, Nat.reduceEqDiff, decide_true, decide_false, cond_true, cond_false, List.filter_nil, List.filter_cons, Nat.reduceAdd, Nat.reduceLeDiff, reduceCtorEq, List.length_nil, List.length_cons, Nat.mul_one, if_true, if_false, Bool.false_eq_true, eq_self, and_true, true_and, retL, resultsL, resAllL, resOfL, List.append_nil, List.nil_append, List.cons_append, true_or, or_true, false_or, or_false, false_and, and_false, not_true_eq_false, not_false_eq_true, ne_eq, unL, trim_nil, views_pures, LV.pures, LV.pure, freeze, Nat.reduceDiv, Int.reduceEq, Int.reduceLT, Int.reduceLE, Int.natCast_zero, LV.cells, allocL, List.getElem?_cons_zero, List.getElem?_cons_succ, storeL, spliceL, List.take_zero, List.take_succ_cons, List.drop_zero, List.drop_succ_cons, List.drop_nil, List.take_nil, Nat.le_refl, Nat.reduceMul, List.set_cons_zero, List.set_cons_succ, LV.scalar, List.all_cons, List.all_nil, Nat.lt_add_one, Nat.zero_lt_one, Nat.lt_irrefl, fillL, List.length_append, foldIntL, kind_beq, pures_int, solids_int, plains_int, unders_int, scalars_int, hm, hn]
theorem rrings_loop (nl ex : Bool) (sz : Nat) {rs : List Row} (L : Nat) (n : Nat) : ∀ (k : Nat) (o : List Int) (m : LMem) (b g : Nat), DOk rs o → o.length = L → k + n = L → m[b]? = some ⟨o.map (LV.int .i64), true⟩ →
    ∃ b' g' m', m'[b']? = some ⟨(ringsI (vals rs) n k o).map (LV.int .i64), true⟩ ∧
    exF LP ref07_Rings.L2 [(0, VL nl ex sz rs), (5, .sl b 0 L L g 1 L), (7, .int .i64 (k : Int))] m =
      some (.exit 2, [(5, .sl b' 0 L L g' 1 L)], m') := by
  induction n with
  | zero =>
    intro k o m b g D hL hk hb
    refine ⟨b, g, m, hb, ?_⟩
    rw [ref07_Rings.L2_eq]
    simp only [ref07_Rings.B2, beqT, beqF, exF_seq, exF_region, exF_block, exF_cond, exF_ret, exF_exit, exF_skip, runL, wantL, stepL, evL, LEnv.at, putL, loadFine, loadL, cellsAt, Trk.putNew, Trk.up, Trk.touch, Trk.gives, Trk.calm, Trk.hit, opdsOf, Trk.fresh, LEnv.keep, LEnv.ofFrom, List.map_cons, List.map_nil, nbeq, nble, nblt, ofAV, ofAVs, lenL, bin_add, bin_sub, bin_mul, bin_eql, bin_neq, bin_lss, bin_leq, bin_gtr, bin_geq, natL_nat, natL_zero, natL_one, natL_two, Nat.zero_mul, List.any_cons, List.any_nil, Bool.or_false, Bool.false_or, Bool.true_or, Bool.or_true, Bool.and_true, Bool.true_and, Bool.and_false, Bool.false_and, Bool.not_true, Bool.not_false, Nat.reduceBEq, Nat.reduceEqDiff, decide_true, decide_false, cond_true, cond_false, List.filter_nil, List.filter_cons, Nat.reduceAdd, Nat.reduceLeDiff, reduceCtorEq, List.length_nil, List.length_cons, Nat.mul_one, if_true, if_false, Bool.false_eq_true, eq_self, and_true, true_and, retL, resultsL, resAllL, resOfL, List.append_nil, List.nil_append, List.cons_append, true_or, or_true, false_or, or_false, false_and, and_false, not_true_eq_false, not_false_eq_true, ne_eq, unL, trim_nil, views_pures, LV.pures, LV.pure, freeze, Nat.reduceDiv, Int.reduceEq, Int.reduceLT, Int.reduceLE, Int.natCast_zero, LV.cells, allocL, List.getElem?_cons_zero, List.getElem?_cons_succ, storeL, spliceL, List.take_zero, List.take_succ_cons, List.drop_zero, List.drop_succ_cons, List.drop_nil, List.take_nil, Nat.le_refl, Nat.reduceMul, List.set_cons_zero, List.set_cons_succ, LV.scalar, List.all_cons, List.all_nil, Nat.lt_add_one, Nat.zero_lt_one, Nat.lt_irrefl, fillL, List.length_append, foldIntL, kind_beq, pures_int, solids_int, plains_int, unders_int, scalars_int, show ¬ ((k : Int) < (L : Int)) by omega]
  | succ n ih =>
    intro k o m b g D hL hk hb
    have h6 := D.le6
    obtain ⟨b1, g1, m1, q1, q2⟩ := rsettle_loop nl ex sz (k : Int) L 500 o m b g D hL (by have := D.own; omega) hb
    have q2 : exF LP ref07_Rings.L1 [(0, VL nl ex sz rs), (5, .sl b 0 L L g 1 L), (7, .int .i64 (k : Int)), (30, .bool true)] m = some (.exit 4, [(0, VL nl ex sz rs), (5, .sl b1 0 L L g1 1 L), (7, .int .i64 (k : Int))], m1) := by
      rw [ref07_Rings.L1_eq] at q2 ⊢
      exact q2
    have hsl := settle_length (vals rs) 500 o
    have D3 := D.of_len hsl
    rw [ref07_Rings.L2_eq, ringsI]
    generalize settle (vals rs) 500 o = q at *
    have hkq : k < q.length := by omega
    have hkL : k < L := by omega
    have hqL : q.length = L := by omega
    have hm := rcalm_m nl ex sz D3 (g := g1) q1 hqL
    have hset : (q.set k (calmI (vals rs) q)).length = o.length := by simp [hsl]
    have hbl : b1 < m1.length := by
      rcases Nat.lt_or_ge b1 m1.length with c | c
      · exact c
      · rw [List.getElem?_eq_none c] at q1; cases q1
    obtain ⟨b', g', m', r1, r2⟩ := ih (k + 1) (q.set k (calmI (vals rs) q)) (m1.set b1 ⟨(q.set k (calmI (vals rs) q)).map (LV.int .i64), true⟩) b1 g1 (D.of_len hset) (by omega) (by omega) (by rw [List.getElem?_set_self hbl])
    refine ⟨b', g', m', r1, ?_⟩
    simp only [ref07_Rings.B2, beqT, beqF, exF_seq, exF_region, exF_block, exF_cond, exF_ret, exF_exit, exF_skip, runL, wantL, stepL, evL, LEnv.at, putL, loadFine, loadL, cellsAt, Trk.putNew, Trk.up, Trk.touch, Trk.gives, Trk.calm, Trk.hit, opdsOf, Trk.fresh, LEnv.keep, LEnv.ofFrom, List.map_cons, List.map_nil, nbeq, nble, nblt, ofAV, ofAVs, lenL, bin_add, bin_sub, bin_mul, bin_eql, bin_neq, bin_lss, bin_leq, bin_gtr, bin_geq, natL_nat, natL_zero, natL_one, natL_two, Nat.zero_mul, List.any_cons, List.any_nil, Bool.or_false, Bool.false_or, Bool.true_or, Bool.or_true, Bool.and_true, Bool.true_and, Bool.and_false, Bool.false_and, Bool.not_true, Bool.not_false, Nat.reduceBEq, Nat.reduceEqDiff, decide_true, decide_false, cond_true, cond_false, List.filter_nil, List.filter_cons, Nat.reduceAdd, Nat.reduceLeDiff, reduceCtorEq, List.length_nil, List.length_cons, Nat.mul_one, if_true, if_false, Bool.false_eq_true, eq_self, and_true, true_and, retL, resultsL, resAllL, resOfL, List.append_nil, List.nil_append, List.cons_append, true_or, or_true, false_or, or_false, false_and, and_false, not_true_eq_false, not_false_eq_true, ne_eq, unL, trim_nil, views_pures, LV.pures, LV.pure, freeze, Nat.reduceDiv, Int.reduceEq, Int.reduceLT, Int.reduceLE, Int.natCast_zero, LV.cells, allocL, List.getElem?_cons_zero, List.getElem?_cons_succ, storeL, spliceL, List.take_zero, List.take_succ_cons, List.drop_zero, List.drop_succ_cons, List.drop_nil, List.take_nil, Nat.le_refl, Nat.reduceMul, List.set_cons_zero, List.set_cons_succ, LV.scalar, List.all_cons, List.all_nil, Nat.lt_add_one, Nat.zero_lt_one, Nat.lt_irrefl, fillL, List.length_append, foldIntL, kind_beq, pures_int, solids_int, plains_int, unders_int, scalars_int, show ((k : Int) < (L : Int)) by omega, q2, hm, q1, hkq, hkL, Nat.zero_add, List.length_map, hqL, set_int _ _ _ _ hkq, show k + 1 ≤ L by omega, wrap_succ (show k + 1 < 9223372036854775808 by omega), r2]
theorem rrings_fill (nl ex : Bool) (sz : Nat) (rs : List Row) (L : Nat) (hL : L ≤ 6) (n : Nat) : ∀ (k : Nat) (o : List Int), k + n = L → o.length = L →
    exF LP ref07_Rings.L0 [(0, VL nl ex sz rs), (5, SLo 0 L), (6, .int .i64 (k : Int))] [⟨o.map (LV.int .i64), true⟩] =
      some (.exit 0, [(0, VL nl ex sz rs), (5, SLo 0 L)], [⟨(o.take k ++ nones n).map (LV.int .i64), true⟩]) := by
  induction n with
  | zero =>
    intro k o hk ho
    rw [ref07_Rings.L0_eq]
    simp only [ref07_Rings.B0, beqT, beqF, exF_seq, exF_region, exF_block, exF_cond, exF_ret, exF_exit, exF_skip, runL, wantL, stepL, evL, LEnv.at, putL, loadFine, loadL, cellsAt, Trk.putNew, Trk.up, Trk.touch, Trk.gives, Trk.calm, Trk.hit, opdsOf, Trk.fresh, LEnv.keep, LEnv.ofFrom, List.map_cons, List.map_nil, nbeq, nble, nblt, ofAV, ofAVs, lenL, bin_add, bin_sub, bin_mul, bin_eql, bin_neq, bin_lss, bin_leq, bin_gtr, bin_geq, natL_nat, natL_zero, natL_one, natL_two, Nat.zero_mul, List.any_cons, List.any_nil, Bool.or_false, Bool.false_or, Bool.true_or, Bool.or_true, Bool.and_true, Bool.true_and, Bool.and_false, Bool.false_and, Bool.not_true, Bool.not_false, Nat.reduceBEq, Nat.reduceEqDiff, decide_true, decide_false, cond_true, cond_false, List.filter_nil, List.filter_cons, Nat.reduceAdd, Nat.reduceLeDiff, reduceCtorEq, List.length_nil, List.length_cons, Nat.mul_one, if_true, if_false, Bool.false_eq_true, eq_self, and_true, true_and, retL, resultsL, resAllL, resOfL, List.append_nil, List.nil_append, List.cons_append, true_or, or_true, false_or, or_false, false_and, and_false, not_true_eq_false, not_false_eq_true, ne_eq, unL, trim_nil, views_pures, LV.pures, LV.pure, freeze, Nat.reduceDiv, Int.reduceEq, Int.reduceLT, Int.reduceLE, Int.natCast_zero, LV.cells, allocL, List.getElem?_cons_zero, List.getElem?_cons_succ, storeL, spliceL, List.take_zero, List.take_succ_cons, List.drop_zero, List.drop_succ_cons, List.drop_nil, List.take_nil, Nat.le_refl, Nat.reduceMul, List.set_cons_zero, List.set_cons_succ, LV.scalar, List.all_cons, List.all_nil, Nat.lt_add_one, Nat.zero_lt_one, Nat.lt_irrefl, fillL, List.length_append, foldIntL, kind_beq, pures_int, solids_int, plains_int, unders_int, scalars_int, show ¬ ((k : Int) < (L : Int)) by omega]
    simp [nones, List.take_of_length_le (show o.length ≤ k by omega)]
  | succ n ih =>
    intro k o hk ho
    have h2 : k < o.length := by omega
    have h3 : k < L := by omega
    have ih := ih (k + 1) (o.set k (-1)) (by omega) (by simpa using ho)
    have e1 : (o.set k (-1)).take (k + 1) ++ nones n = o.take k ++ nones (n + 1) := by
      rw [List.set_eq_take_append_cons_drop, if_pos h2, List.take_append, List.length_take]
      have e2 : k + 1 - min k o.length = 1 := by omega
      rw [e2]
      simp [nones, List.replicate_succ, List.take_take]
    rw [e1] at ih
    rw [ref07_Rings.L0_eq]
    simp only [ref07_Rings.B0, beqT, beqF, exF_seq, exF_region, exF_block, exF_cond, exF_ret, exF_exit, exF_skip, runL, wantL, stepL, evL, LEnv.at, putL, loadFine, loadL, cellsAt, Trk.putNew, Trk.up, Trk.touch, Trk.gives, Trk.calm, Trk.hit, opdsOf, Trk.fresh, LEnv.keep, LEnv.ofFrom, List.map_cons, List.map_nil, nbeq, nble, nblt, ofAV, ofAVs, lenL, bin_add, bin_sub, bin_mul, bin_eql, bin_neq, bin_lss, bin_leq, bin_gtr, bin_geq, natL_nat, natL_zero, natL_one, natL_two, Nat.zero_mul, List.any_cons, List.any_nil, Bool.or_false, Bool.false_or, Bool.true_or, Bool.or_true, Bool.and_true, Bool.true_and, Bool.and_false, Bool.false_and, Bool.not_true, Bool.not_false, Nat.reduceBEq, Nat.reduceEqDiff, decide_true, decide_false, cond_true, cond_false, List.filter_nil, List.filter_cons, Nat.reduceAdd, Nat.reduceLeDiff, reduceCtorEq, List.length_nil, List.length_cons, Nat.mul_one, if_true, if_false, Bool.false_eq_true, eq_self, and_true, true_and, retL, resultsL, resAllL, resOfL, List.append_nil, List.nil_append, List.cons_append, true_or, or_true, false_or, or_false, false_and, and_false, not_true_eq_false, not_false_eq_true, ne_eq, unL, trim_nil, views_pures, LV.pures, LV.pure, freeze, Nat.reduceDiv, Int.reduceEq, Int.reduceLT, Int.reduceLE, Int.natCast_zero, LV.cells, allocL, List.getElem?_cons_zero, List.getElem?_cons_succ, storeL, spliceL, List.take_zero, List.take_succ_cons, List.drop_zero, List.drop_succ_cons, List.drop_nil, List.take_nil, Nat.le_refl, Nat.reduceMul, List.set_cons_zero, List.set_cons_succ, LV.scalar, List.all_cons, List.all_nil, Nat.lt_add_one, Nat.zero_lt_one, Nat.lt_irrefl, fillL, List.length_append, foldIntL, kind_beq, pures_int, solids_int, plains_int, unders_int, scalars_int, show ((k : Int) < (L : Int)) by omega, ho, h2, h3, Nat.zero_add, List.length_map, set_int _ _ _ _ h2, show k + 1 ≤ L by omega, wrap_succ (show k + 1 < 9223372036854775808 by omega), ih]
theorem view_slg (m : LMem) (i L g : Nat) (o : List Int) (b : Bool) (e : Int) (h : m[i]? = some ⟨o.map (LV.int .i64), b⟩) (hL : o.length = L) : view 40 m (.tup [.sl i 0 L L g 1 L, .int .i64 e]) = some (.tup [IL false (Nat.beq g 0) 1 o, .int .i64 e], [i]) := by
  have h1 := fun k => view_sl k m i 0 L L g o b h hL (by omega) L (by omega)
  have := views_two 31 m _ (.int .i64 e) _ _ h1 rfl (by simp [LV.pures, LV.pure])
  rw [view.eq_def]
  simp only [this]
  subst hL
  simp [nbeq]
theorem ringsR_c (nl ex : Bool) (sz : Nat) (rs : List Row) (hl : rs.length < 1000000) (hr : ∀ r ∈ rs, r.l.length < 1000000) : ∃ nl' ex' sz', ∀ m, clF LP n_ref07_Rings [VL nl ex sz rs] m = some (.P, .tup [IL nl' ex' sz' (ringsV (vals rs)), .int .i64 (chkV (vals rs))], m) := by
  have hc := fun m => rcheck_c nl ex sz rs hl hr m
  unfold ringsV
  by_cases h1 : chkV (vals rs) = 0
  · have D := vok_of h1
    obtain ⟨k1, k2, k3, k4, k5⟩ := D
    rw [vals0 rs k1] at *
    rw [if_pos h1]
    have hn : (nones rs[0].l.length).length = rs[0].l.length := by simp [nones]
    have D : DOk rs (nones rs[0].l.length) := ⟨k1, k2, fun i hi => by rw [hn, k3 i hi], k4, by rw [hn]; exact k5⟩
    have hf := rrings_fill nl ex sz rs rs[0].l.length k5 rs[0].l.length 0 (List.replicate rs[0].l.length 0) (by omega) (by simp)
    rw [List.take_zero, List.nil_append] at hf
    obtain ⟨b', g', m', q1, q2⟩ := rrings_loop nl ex sz rs[0].l.length rs[0].l.length 0 (nones rs[0].l.length) [⟨(nones rs[0].l.length).map (LV.int .i64), true⟩] 0 0 D hn (by omega) rfl
    have htl := ringsI_length (vals rs) rs[0].l.length 0 (nones rs[0].l.length)
    rw [hn] at htl
    generalize ringsI (vals rs) rs[0].l.length 0 (nones rs[0].l.length) = r at *
    have hv := view_slg m' b' rs[0].l.length g' r true 0 q1 htl
    rw [h1]
    have hr1 : rs[0].l.length * 8 ≤ roomMost := by unfold roomMost; omega
    have hr2 : rs[0].l.length ≤ roomMost := by unfold roomMost; omega
    simp only [Int.natCast_zero] at hf q2
    refine ⟨false, Nat.beq g' 0, 1, fun m => call_Pv lp_ref07_Rings rfl (by simp [LV.pures, LV.pure]) ?_ hv m⟩
    simp only [ref07_Rings, ref07_Rings.B, beqT, beqF, exF_seq, exF_region, exF_block, exF_cond, exF_ret, exF_exit, exF_skip, runL, wantL, stepL, evL, LEnv.at, putL, loadFine, loadL, cellsAt, Trk.putNew, Trk.up, Trk.touch, Trk.gives, Trk.calm, Trk.hit, opdsOf, Trk.fresh, LEnv.keep, LEnv.ofFrom, List.map_cons, List.map_nil, nbeq, nble, nblt, ofAV, ofAVs, lenL, bin_add, bin_sub, bin_mul, bin_eql, bin_neq, bin_lss, bin_leq, bin_gtr, bin_geq, natL_nat, natL_zero, natL_one, natL_two, Nat.zero_mul, List.any_cons, List.any_nil, Bool.or_false, Bool.false_or, Bool.true_or, Bool.or_true, Bool.and_true, Bool.true_and, Bool.and_false, Bool.false_and, Bool.not_true, Bool.not_false, Nat.reduceBEq, Nat.reduceEqDiff, decide_true, decide_false, cond_true, cond_false, List.filter_nil, List.filter_cons, Nat.reduceAdd, Nat.reduceLeDiff, reduceCtorEq, List.length_nil, List.length_cons, Nat.mul_one, if_true, if_false, Bool.false_eq_true, eq_self, and_true, true_and, retL, resultsL, resAllL, resOfL, List.append_nil, List.nil_append, List.cons_append, true_or, or_true, false_or, or_false, false_and, and_false, not_true_eq_false, not_false_eq_true, ne_eq, unL, trim_nil, views_pures, LV.pures, LV.pure, freeze, Nat.reduceDiv, Int.reduceEq, Int.reduceLT, Int.reduceLE, Int.natCast_zero, LV.cells, allocL, List.getElem?_cons_zero, List.getElem?_cons_succ, storeL, spliceL, List.take_zero, List.take_succ_cons, List.drop_zero, List.drop_succ_cons, List.drop_nil, List.take_nil, Nat.le_refl, Nat.reduceMul, List.set_cons_zero, List.set_cons_succ, LV.scalar, List.all_cons, List.all_nil, Nat.lt_add_one, Nat.zero_lt_one, Nat.lt_irrefl, fillL, List.length_append, foldIntL, kind_beq, pures_int, solids_int, plains_int, unders_int, scalars_int, hc, h1, k1, row_at _ _ k1, hf, q2, Nat.zero_add, hr1, hr2, zeros_int]
  · rw [if_neg h1]
    refine ⟨true, true, 0, fun m => call_P lp_ref07_Rings rfl (by simp [LV.pures, LV.pure]) (m1 := []) ?_ (by simp [LV.pures, LV.pure]) m⟩
    simp only [ref07_Rings, ref07_Rings.B, beqT, beqF, exF_seq, exF_region, exF_block, exF_cond, exF_ret, exF_exit, exF_skip, runL, wantL, stepL, evL, LEnv.at, putL, loadFine, loadL, cellsAt, Trk.putNew, Trk.up, Trk.touch, Trk.gives, Trk.calm, Trk.hit, opdsOf, Trk.fresh, LEnv.keep, LEnv.ofFrom, List.map_cons, List.map_nil, nbeq, nble, nblt, ofAV, ofAVs, lenL, bin_add, bin_sub, bin_mul, bin_eql, bin_neq, bin_lss, bin_leq, bin_gtr, bin_geq, natL_nat, natL_zero, natL_one, natL_two, Nat.zero_mul, List.any_cons, List.any_nil, Bool.or_false, Bool.false_or, Bool.true_or, Bool.or_true, Bool.and_true, Bool.true_and, Bool.and_false, Bool.false_and, Bool.not_true, Bool.not_false, Nat.reduceBEq, Nat.reduceEqDiff, decide_true, decide_false, cond_true, cond_false, List.filter_nil, List.filter_cons, Nat.reduceAdd, Nat.reduceLeDiff, reduceCtorEq, List.length_nil, List.length_cons, Nat.mul_one, if_true, if_false, Bool.false_eq_true, eq_self, and_true, true_and, retL, resultsL, resAllL, resOfL, List.append_nil, List.nil_append, List.cons_append, true_or, or_true, false_or, or_false, false_and, and_false, not_true_eq_false, not_false_eq_true, ne_eq, unL, trim_nil, views_pures, LV.pures, LV.pure, freeze, Nat.reduceDiv, Int.reduceEq, Int.reduceLT, Int.reduceLE, Int.natCast_zero, LV.cells, allocL, List.getElem?_cons_zero, List.getElem?_cons_succ, storeL, spliceL, List.take_zero, List.take_succ_cons, List.drop_zero, List.drop_succ_cons, List.drop_nil, List.take_nil, Nat.le_refl, Nat.reduceMul, List.set_cons_zero, List.set_cons_succ, LV.scalar, List.all_cons, List.all_nil, Nat.lt_add_one, Nat.zero_lt_one, Nat.lt_irrefl, fillL, List.length_append, foldIntL, kind_beq, pures_int, solids_int, plains_int, unders_int, scalars_int, hc, h1]
    rfl
end Go.Am.Share

/-
  The law 'ShareGives' over the list machine.
-/
set_option linter.unusedVariables false
set_option linter.unusedSimpArgs false
set_option maxRecDepth 10000
namespace Go.Am.Share
theorem turnV_len (V : List (List Int)) (o : List Int) : (turnV V o).length < 1000000 := by
  unfold turnV
  split
  · rename_i h
    unfold turnE at h
    split at h
    · rename_i c; exact absurd h c
    · rename_i c
      have h1 : chkV V = 0 := by simpa using c
      have := (chkV_ok h1).2.2.1
      rw [trn_length, nones, List.length_replicate]; omega
  · simp
theorem ringsV_len (V : List (List Int)) : (ringsV V).length < 1000000 := by
  unfold ringsV
  split
  · rename_i h1
    have := (chkV_ok h1).2.2.1
    rw [ringsI_length, nones, List.length_replicate]; omega
  · simp
theorem gives_law (nl nl' : Bool) (rs : List Row) (o : List Int) (hnl : nl' = true → o = []) : clF LP n_law07_ShareGives [VL nl false 1 rs, IL nl' false 1 o] [] = some (.P, .bool true, []) := by
  refine call_P lp_law07_ShareGives rfl (by simp [LV.pures, LV.pure]) (m1 := []) ?_ rfl []
  cases h : largeB rs o
  · have I := in_of h hnl
    obtain ⟨a, b, c, hR⟩ := ringsR_c nl false 1 rs I.hl I.hr
    simp only [law07_ShareGives, law07_ShareGives.B, beqT, beqF, exF_seq, exF_region, exF_block, exF_cond, exF_ret, exF_exit, exF_skip, runL, wantL, stepL, evL, LEnv.at, putL, loadFine, loadL, cellsAt, Trk.putNew, Trk.up, Trk.touch, Trk.gives, Trk.calm, Trk.hit, opdsOf, Trk.fresh, LEnv.keep, LEnv.ofFrom, List.map_cons, List.map_nil, nbeq, nble, nblt, ofAV, ofAVs, lenL, bin_add, bin_sub, bin_mul, bin_eql, bin_neq, bin_lss, bin_leq, bin_gtr, bin_geq, natL_nat, natL_zero, natL_one, natL_two, Nat.zero_mul, List.any_cons, List.any_nil, Bool.or_false, Bool.false_or, Bool.true_or, Bool.or_true, Bool.and_true, Bool.true_and, Bool.and_false, Bool.false_and, Bool.not_true, Bool.not_false, Nat.reduceBEq, Nat.reduceEqDiff, decide_true, decide_false, cond_true, cond_false, List.filter_nil, List.filter_cons, Nat.reduceAdd, Nat.reduceLeDiff, reduceCtorEq, List.length_nil, List.length_cons, Nat.mul_one, if_true, if_false, Bool.false_eq_true, eq_self, and_true, true_and, retL, resultsL, resAllL, resOfL, List.append_nil, List.nil_append, List.cons_append, true_or, or_true, false_or, or_false, false_and, and_false, not_true_eq_false, not_false_eq_true, ne_eq, unL, trim_nil, views_pures, LV.pures, LV.pure, freeze, Nat.reduceDiv, Int.reduceEq, Int.reduceLT, Int.reduceLE, Int.natCast_zero, LV.cells, allocL, List.getElem?_cons_zero, List.getElem?_cons_succ, storeL, spliceL, List.take_zero, List.take_succ_cons, List.drop_zero, List.drop_succ_cons, List.drop_nil, List.take_nil, Nat.le_refl, Nat.reduceMul, List.set_cons_zero, List.set_cons_succ, LV.scalar, List.all_cons, List.all_nil, Nat.lt_add_one, Nat.zero_lt_one, Nat.lt_irrefl, fillL, List.length_append, foldIntL, kind_beq, pures_int, solids_int, plains_int, unders_int, scalars_int, large_c, h, turnsP_c _ _ _ _ _ _ _ _ I, turnsR_c _ _ _ _ _ _ _ _ I, ringsP_c _ _ _ _ I.hl I.hr, hR, same_refl _ _ _ _ _ _ _ (turnV_len _ _), same_refl _ _ _ _ _ _ _ (ringsV_len _), works_c]
  · simp only [law07_ShareGives, law07_ShareGives.B, beqT, beqF, exF_seq, exF_region, exF_block, exF_cond, exF_ret, exF_exit, exF_skip, runL, wantL, stepL, evL, LEnv.at, putL, loadFine, loadL, cellsAt, Trk.putNew, Trk.up, Trk.touch, Trk.gives, Trk.calm, Trk.hit, opdsOf, Trk.fresh, LEnv.keep, LEnv.ofFrom, List.map_cons, List.map_nil, nbeq, nble, nblt, ofAV, ofAVs, lenL, bin_add, bin_sub, bin_mul, bin_eql, bin_neq, bin_lss, bin_leq, bin_gtr, bin_geq, natL_nat, natL_zero, natL_one, natL_two, Nat.zero_mul, List.any_cons, List.any_nil, Bool.or_false, Bool.false_or, Bool.true_or, Bool.or_true, Bool.and_true, Bool.true_and, Bool.and_false, Bool.false_and, Bool.not_true, Bool.not_false, Nat.reduceBEq, Nat.reduceEqDiff, decide_true, decide_false, cond_true, cond_false, List.filter_nil, List.filter_cons, Nat.reduceAdd, Nat.reduceLeDiff, reduceCtorEq, List.length_nil, List.length_cons, Nat.mul_one, if_true, if_false, Bool.false_eq_true, eq_self, and_true, true_and, retL, resultsL, resAllL, resOfL, List.append_nil, List.nil_append, List.cons_append, true_or, or_true, false_or, or_false, false_and, and_false, not_true_eq_false, not_false_eq_true, ne_eq, unL, trim_nil, views_pures, LV.pures, LV.pure, freeze, Nat.reduceDiv, Int.reduceEq, Int.reduceLT, Int.reduceLE, Int.natCast_zero, LV.cells, allocL, List.getElem?_cons_zero, List.getElem?_cons_succ, storeL, spliceL, List.take_zero, List.take_succ_cons, List.drop_zero, List.drop_succ_cons, List.drop_nil, List.take_nil, Nat.le_refl, Nat.reduceMul, List.set_cons_zero, List.set_cons_succ, LV.scalar, List.all_cons, List.all_nil, Nat.lt_add_one, Nat.zero_lt_one, Nat.lt_irrefl, fillL, List.length_append, foldIntL, kind_beq, pures_int, solids_int, plains_int, unders_int, scalars_int, large_c, h, works_c]
theorem gives_in (nl : Bool) (rs : List (Bool × List Int)) (h1 : nl = true → rs = []) (h2 : ∀ r ∈ rs, r.1 = true → r.2 = []) (nl' : Bool) (o : List Int) (hnl : nl' = true → o = []) :
    clF LP n_law07_ShareGives [.lst nl false 1 rs.length (rs.map fun r => IL r.1 false 1 r.2), IL nl' false 1 o] [] = some (.P, .bool true, []) := by
  rw [← rowsOf_lv]
  exact gives_law nl nl' (rowsOf rs) o hnl
end Go.Am.Share

