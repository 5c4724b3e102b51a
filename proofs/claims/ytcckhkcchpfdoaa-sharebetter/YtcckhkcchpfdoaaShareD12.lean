import Derived.Test.YtcckhkcchpfdoaaShareD9
/-
  What functions of chapter 07 compute, outright 12: the law 'ShareBetter': one division.
-/
set_option linter.unusedVariables false
set_option linter.unusedSimpArgs false
set_option maxRecDepth 10000
set_option maxHeartbeats 400000
namespace Go.Am.Share
open Go.Am.G

theorem pget (P Q : LMem) (i : Nat) : (P ++ Q)[P.length + i]? = Q[i]? := by rw [List.getElem?_append_right (by omega), Nat.add_sub_cancel_left]
theorem pset (P Q : LMem) (i : Nat) (x : LBlk) : (P ++ Q).set (P.length + i) x = P ++ Q.set i x := by rw [List.set_append_right _ _ (by omega), Nat.add_sub_cancel_left]
def wnt (k L : Nat) : Option (List Int) → LV
  | none => .lst true true 0 0 []
  | some _ => CV (k + 4) L
def wblk (L : Nat) : Option (List Int) → LMem
  | none => []
  | some q => if L = 0 then [] else [⟨ints q, true⟩]
def wow (L : Nat) (s : Option (List Int)) : Bool := s.isNone || decide (L ≠ 0)
def BMf (P : LMem) (W : LV) (L : Nat) (s : Option (List Int)) (o : List Int) : LMem :=
  P ++ ([⟨[W], true⟩, ⟨[wnt P.length L s], true⟩, ⟨[.bool s.isSome], true⟩, ⟨ints o, wow L s⟩] ++ wblk L s)
theorem bm_trim (P : LMem) (W : LV) (L : Nat) (o q : List Int) : trim (P.length + 4) [.tup []] (BMf P W L (some q) o) = BMf P W L (some q) o := by
  by_cases h : L = 0
  · exact trim_le _ _ _ (by simp [BMf, wblk, h])
  · unfold trim
    have hb : belowM (P.length + 4) ((BMf P W L (some q) o).take (P.length + 4)) = false := by
      unfold belowM
      rw [List.all_eq_false]
      refine ⟨⟨[wnt P.length L (some q)], true⟩, ?_, ?_⟩
      · refine List.mem_of_getElem? (i := P.length + 1) ?_
        rw [List.getElem?_take, if_pos (by omega)]
        exact pget P _ 1
      · simp [wnt, CV, h, LV.unders, LV.under, nblt]
    rw [hb, Bool.and_false, cond_false]
theorem better1_w (P : LMem) (b0 c0 : Bool) (z0 : Nat) {rs : List Row} (hP2 : P[2]? = some ⟨[VL b0 c0 z0 rs], true⟩) {lo : List Int} (Dl : LOk rs lo) {L : Nat} {o : List Int} (D : LOk rs o) (ho : o.length = L) (s : Option (List Int)) :
    clF LP n_law07_ShareBetter_1 [SLo (P.length + 3) L, .ptr (P.length + 2) 0 1, .ptr 2 0 1, .ptr P.length 0 1, .ptr (P.length + 1) 0 1] (BMf P (VL false true 1 (WR (vals rs) lo)) L s o) = some (.W, .tup [], BMf P (VL false true 1 (WR (vals rs) lo)) L (s.or (if better (vals rs) o lo then some o else none)) o) := by
  have h6 := D.le6
  have hk2 := (List.getElem?_eq_some_iff.1 hP2).1
  have g2 : (BMf P (VL false true 1 (WR (vals rs) lo)) L s o)[2]? = some ⟨[VL b0 c0 z0 rs], true⟩ := by unfold BMf; rw [List.getElem?_append_left hk2]; exact hP2
  have gk : (BMf P (VL false true 1 (WR (vals rs) lo)) L s o)[P.length]? = some ⟨[VL false true 1 (WR (vals rs) lo)], true⟩ := pget P _ 0
  have gF : (BMf P (VL false true 1 (WR (vals rs) lo)) L s o)[P.length + 2]? = some ⟨[.bool s.isSome], true⟩ := pget P _ 2
  have gL : (BMf P (VL false true 1 (WR (vals rs) lo)) L s o)[P.length + 3]? = some ⟨ints o, wow L s⟩ := pget P _ 3
  have hwm := worths_m b0 c0 z0 D (m := BMf P (VL false true 1 (WR (vals rs) lo)) L s o) gL ho
  have hbt := fun m => lbetter_c D Dl m
  have hcw : ∀ (e : LEnv) (m1 : LMem), exF LP law07_ShareBetter_1.body (LEnv.ofFrom 0 [SLo (P.length + 3) L, .ptr (P.length + 2) 0 1, .ptr 2 0 1, .ptr P.length 0 1, .ptr (P.length + 1) 0 1]) (BMf P (VL false true 1 (WR (vals rs) lo)) L s o) = some (.normal, e, m1) → clF LP n_law07_ShareBetter_1 [SLo (P.length + 3) L, .ptr (P.length + 2) 0 1, .ptr 2 0 1, .ptr P.length 0 1, .ptr (P.length + 1) 0 1] (BMf P (VL false true 1 (WR (vals rs) lo)) L s o) = some (.W, .tup [], trim (BMf P (VL false true 1 (WR (vals rs) lo)) L s o).length [.tup []] m1) := fun e m1 h => call_W (v := .tup []) (m1 := m1) lp_law07_ShareBetter_1 rfl (by rw [h]; rfl)
  have hn1 : ¬ (BMf P (VL false true 1 (WR (vals rs) lo)) L s o).length ≤ P.length + 2 := by have := (List.getElem?_eq_some_iff.1 gF).1; omega
  have hn2 : ¬ (BMf P (VL false true 1 (WR (vals rs) lo)) L s o).length ≤ P.length := by have := (List.getElem?_eq_some_iff.1 gk).1; omega
  have hn3 : ¬ (BMf P (VL false true 1 (WR (vals rs) lo)) L s o).length ≤ 2 := by have := (List.getElem?_eq_some_iff.1 g2).1; omega
  cases s with
  | some q =>
    simp only [Option.some_or]
    have gF : (BMf P (VL false true 1 (WR (vals rs) lo)) L (some q) o)[P.length + 2]? = some ⟨[.bool true], true⟩ := gF
    rw [hcw [(0, SLo (P.length + 3) L), (1, .ptr (P.length + 2) 0 1), (4, .ptr (P.length + 1) 0 1), (14, .bool false)] (BMf P (VL false true 1 (WR (vals rs) lo)) L (some q) o) ?_, trim_le _ _ _ (Nat.le_refl _)]
    generalize BMf P (VL false true 1 (WR (vals rs) lo)) L (some q) o = M at *
    generalize VL false true 1 (WR (vals rs) lo) = VW at *
    simp (maxSteps := 1000000) only [law07_ShareBetter_1, law07_ShareBetter_1.B, law07_ShareBetter_1.B.R0, beqT, beqF, exF_seq, exF_region, exF_block, exF_cond, exF_ret, exF_exit, exF_skip, runL, wantL, stepL, evL, evC, LEnv.at, putL, loadFine, loadL, cellsAt, Trk.putNew, Trk.up, Trk.touch, Trk.gives, Trk.calm, Trk.hit, opdsOf, Trk.fresh, LEnv.keep, LEnv.ofFrom, List.map_cons, List.map_nil, nbeq, nble, nblt, ofAV, ofAVs, bin_add, bin_sub, bin_mul, bin_eql, bin_neq, bin_lss, bin_leq, bin_gtr, bin_geq, natL_nat, natL_zero, natL_one, natL_two, Nat.zero_mul, List.any_cons, List.any_nil, Bool.or_false, Bool.false_or, Bool.true_or, Bool.or_true, Bool.and_true, Bool.true_and, Bool.and_false, Bool.false_and, Bool.not_true, Bool.not_false, Nat.reduceBEq, Nat.reduceEqDiff, decide_true, decide_false, cond_true, cond_false, List.filter_nil, List.filter_cons, Nat.reduceAdd, Nat.reduceLeDiff, reduceCtorEq, List.length_nil, List.length_cons, Nat.mul_one, if_true, if_false, Bool.false_eq_true, eq_self, and_true, true_and, retL, resultsL, resAllL, resOfL, List.append_nil, List.nil_append, List.cons_append, true_or, or_true, false_or, or_false, false_and, and_false, not_true_eq_false, not_false_eq_true, ne_eq, unL, trim_nil, views_pures, LV.pures, LV.pure, freeze, Nat.reduceDiv, Int.reduceEq, Int.reduceLT, Int.reduceLE, Int.natCast_zero, LV.cells, allocL, List.getElem?_cons_zero, List.getElem?_cons_succ, storeL, spliceL, List.take_zero, List.take_succ_cons, List.drop_zero, List.drop_succ_cons, List.drop_nil, List.take_nil, Nat.le_refl, Nat.reduceMul, List.set_cons_zero, List.set_cons_succ, LV.scalar, List.all_cons, List.all_nil, Nat.lt_add_one, Nat.zero_lt_one, Nat.reduceLT, Nat.lt_irrefl, fillL, List.length_append, foldIntL, kind_beq, pures_int, solids_int, plains_int, unders_int, scalars_int, gF, hn1, hn2, hn3]
  | none =>
    simp only [Option.none_or]
    have gF : (BMf P (VL false true 1 (WR (vals rs) lo)) L none o)[P.length + 2]? = some ⟨[.bool false], true⟩ := gF
    cases hB : better (vals rs) o lo
    · rw [hB] at hbt
      simp only [Bool.false_eq_true, if_false]
      rw [hcw [(0, SLo (P.length + 3) L), (1, .ptr (P.length + 2) 0 1), (4, .ptr (P.length + 1) 0 1), (14, .bool false)] (BMf P (VL false true 1 (WR (vals rs) lo)) L none o) ?_, trim_le _ _ _ (Nat.le_refl _)]
      generalize BMf P (VL false true 1 (WR (vals rs) lo)) L none o = M at *
      generalize VL false true 1 (WR (vals rs) lo) = VW at *
      generalize VL false true 1 (WR (vals rs) o) = VW2 at *
      generalize VL b0 c0 z0 rs = VV at *
      simp (maxSteps := 1000000) only [law07_ShareBetter_1, law07_ShareBetter_1.B, law07_ShareBetter_1.B.R0, beqT, beqF, exF_seq, exF_region, exF_block, exF_cond, exF_ret, exF_exit, exF_skip, runL, wantL, stepL, evL, evC, LEnv.at, putL, loadFine, loadL, cellsAt, Trk.putNew, Trk.up, Trk.touch, Trk.gives, Trk.calm, Trk.hit, opdsOf, Trk.fresh, LEnv.keep, LEnv.ofFrom, List.map_cons, List.map_nil, nbeq, nble, nblt, ofAV, ofAVs, bin_add, bin_sub, bin_mul, bin_eql, bin_neq, bin_lss, bin_leq, bin_gtr, bin_geq, natL_nat, natL_zero, natL_one, natL_two, Nat.zero_mul, List.any_cons, List.any_nil, Bool.or_false, Bool.false_or, Bool.true_or, Bool.or_true, Bool.and_true, Bool.true_and, Bool.and_false, Bool.false_and, Bool.not_true, Bool.not_false, Nat.reduceBEq, Nat.reduceEqDiff, decide_true, decide_false, cond_true, cond_false, List.filter_nil, List.filter_cons, Nat.reduceAdd, Nat.reduceLeDiff, reduceCtorEq, List.length_nil, List.length_cons, Nat.mul_one, if_true, if_false, Bool.false_eq_true, eq_self, and_true, true_and, retL, resultsL, resAllL, resOfL, List.append_nil, List.nil_append, List.cons_append, true_or, or_true, false_or, or_false, false_and, and_false, not_true_eq_false, not_false_eq_true, ne_eq, unL, trim_nil, views_pures, LV.pures, LV.pure, freeze, Nat.reduceDiv, Int.reduceEq, Int.reduceLT, Int.reduceLE, Int.natCast_zero, LV.cells, allocL, List.getElem?_cons_zero, List.getElem?_cons_succ, storeL, spliceL, List.take_zero, List.take_succ_cons, List.drop_zero, List.drop_succ_cons, List.drop_nil, List.take_nil, Nat.le_refl, Nat.reduceMul, List.set_cons_zero, List.set_cons_succ, LV.scalar, List.all_cons, List.all_nil, Nat.lt_add_one, Nat.zero_lt_one, Nat.reduceLT, Nat.lt_irrefl, fillL, List.length_append, foldIntL, kind_beq, pures_int, solids_int, plains_int, unders_int, scalars_int, gF, g2, gk, hwm, hbt, hn1, hn2, hn3]
    · rw [hB] at hbt
      simp only [if_true]
      have gL : (BMf P (VL false true 1 (WR (vals rs) lo)) L none o)[P.length + 3]? = some ⟨o.map (LV.int .i64), true⟩ := gL
      have hcl := clone_m (g := 0) gL ho (by omega)
      have hlen : (BMf P (VL false true 1 (WR (vals rs) lo)) L none o).length = P.length + 4 := by simp [BMf, wblk]
      rw [hlen] at hcl
      have hcv : (CV (P.length + 4) L).cells = some [CV (P.length + 4) L] := by unfold CV; split <;> rfl
      have hcs : LV.scalar (CV (P.length + 4) L) = true := by unfold CV; split <;> rfl
      have hcb : ∀ b : Bool, (LV.bool b).cells = some [.bool b] := fun _ => rfl
      have hsb : ∀ b : Bool, LV.scalar (.bool b) = true := fun _ => rfl
      have key : (if L = 0 then freeze [P.length + 3] (BMf P (VL false true 1 (WR (vals rs) lo)) L none o) else BMf P (VL false true 1 (WR (vals rs) lo)) L none o ++ [⟨o.map (LV.int .i64), true⟩]) = P ++ ([⟨[VL false true 1 (WR (vals rs) lo)], true⟩, ⟨[.lst true true 0 0 []], true⟩, ⟨[.bool false], true⟩, ⟨ints o, decide (L ≠ 0)⟩] ++ wblk L (some o)) := by
        by_cases h : L = 0
        · rw [if_pos h]
          simp only [freeze, freeze1, gL]
          unfold BMf
          rw [pset]
          simp [wnt, wblk, wow, h]
        · rw [if_neg h]
          simp [BMf, wnt, wblk, wow, h]
      rw [key] at hcl
      obtain ⟨M1, hM1⟩ : ∃ M, M = P ++ ([⟨[VL false true 1 (WR (vals rs) lo)], true⟩, ⟨[.lst true true 0 0 []], true⟩, ⟨[.bool false], true⟩, (⟨ints o, decide (L ≠ 0)⟩ : LBlk)] ++ wblk L (some o)) := ⟨_, rfl⟩
      rw [← hM1] at hcl
      have m1a : M1[P.length + 1]? = some ⟨[.lst true true 0 0 []], true⟩ := by rw [hM1]; exact pget P _ 1
      obtain ⟨M2, hM2⟩ : ∃ M, M = M1.set (P.length + 1) ⟨[CV (P.length + 4) L], true⟩ := ⟨_, rfl⟩
      have hM2' : M2 = P ++ ([⟨[VL false true 1 (WR (vals rs) lo)], true⟩, ⟨[CV (P.length + 4) L], true⟩, ⟨[.bool false], true⟩, ⟨ints o, decide (L ≠ 0)⟩] ++ wblk L (some o)) := by rw [hM2, hM1, pset]; rfl
      have m2a : M2[P.length + 2]? = some ⟨[.bool false], true⟩ := by rw [hM2']; exact pget P _ 2
      obtain ⟨M3, hM3⟩ : ∃ M, M = M2.set (P.length + 2) ⟨[.bool true], true⟩ := ⟨_, rfl⟩
      have hM3' : M3 = BMf P (VL false true 1 (WR (vals rs) lo)) L (some o) o := by rw [hM3, hM2', pset]; simp [BMf, wnt, wow]
      have htr := bm_trim P (VL false true 1 (WR (vals rs) lo)) L o o
      rw [← hM3'] at htr ⊢
      have hc := hcw [] M3
      rw [hlen, htr] at hc
      refine hc ?_
      clear hc hcw htr hM3' hM2' hM1 key
      generalize BMf P (VL false true 1 (WR (vals rs) lo)) L none o = M at *
      generalize VL false true 1 (WR (vals rs) lo) = VW at *
      generalize VL false true 1 (WR (vals rs) o) = VW2 at *
      generalize VL b0 c0 z0 rs = VV at *
      generalize CV (P.length + 4) L = cv at *
      simp (maxSteps := 1000000) only [law07_ShareBetter_1, law07_ShareBetter_1.B, law07_ShareBetter_1.B.R0, beqT, beqF, exF_seq, exF_region, exF_block, exF_cond, exF_ret, exF_exit, exF_skip, runL, wantL, stepL, evL, evC, LEnv.at, putL, loadFine, loadL, cellsAt, Trk.putNew, Trk.up, Trk.touch, Trk.gives, Trk.calm, Trk.hit, opdsOf, Trk.fresh, LEnv.keep, LEnv.ofFrom, List.map_cons, List.map_nil, nbeq, nble, nblt, ofAV, ofAVs, bin_add, bin_sub, bin_mul, bin_eql, bin_neq, bin_lss, bin_leq, bin_gtr, bin_geq, natL_nat, natL_zero, natL_one, natL_two, Nat.zero_mul, List.any_cons, List.any_nil, Bool.or_false, Bool.false_or, Bool.true_or, Bool.or_true, Bool.and_true, Bool.true_and, Bool.and_false, Bool.false_and, Bool.not_true, Bool.not_false, Nat.reduceBEq, Nat.reduceEqDiff, decide_true, decide_false, cond_true, cond_false, List.filter_nil, List.filter_cons, Nat.reduceAdd, Nat.reduceLeDiff, reduceCtorEq, List.length_nil, List.length_cons, Nat.mul_one, if_true, if_false, Bool.false_eq_true, eq_self, and_true, true_and, retL, resultsL, resAllL, resOfL, List.append_nil, List.nil_append, List.cons_append, true_or, or_true, false_or, or_false, false_and, and_false, not_true_eq_false, not_false_eq_true, ne_eq, unL, trim_nil, views_pures, LV.pures, LV.pure, freeze, Nat.reduceDiv, Int.reduceEq, Int.reduceLT, Int.reduceLE, Int.natCast_zero, allocL, List.getElem?_cons_zero, List.getElem?_cons_succ, storeL, spliceL, List.take_zero, List.take_succ_cons, List.drop_zero, List.drop_succ_cons, List.drop_nil, List.take_nil, Nat.le_refl, Nat.reduceMul, List.set_cons_zero, List.set_cons_succ, List.all_cons, List.all_nil, Nat.lt_add_one, Nat.zero_lt_one, Nat.reduceLT, Nat.lt_irrefl, fillL, List.length_append, foldIntL, kind_beq, pures_int, solids_int, plains_int, unders_int, scalars_int, gF, g2, gk, hwm, hbt, hn1, hn2, hn3, hcl, hcv, hcs, hcb, hsb, m1a, ← hM2, m2a, ← hM3]
end Go.Am.Share

/-
  What functions of chapter 07 compute, outright 13: the law 'ShareBetter': from better to better ones.
-/
set_option linter.unusedVariables false
set_option linter.unusedSimpArgs false
set_option maxRecDepth 10000
set_option maxHeartbeats 400000
namespace Go.Am.Share
open Go.Am.G

theorem ownT_succ (V : List (List Int)) (o : List Int) (k n : Nat) : ownT V o k (n + 1) = ws (k : Int) (V.getD k []) o 0 + ownT V o (k + 1) n := by unfold ownT; rw [ownL_succ]; simp
theorem better_L1 {rs : List Row} {o : List Int} (D : LOk rs o) (V5 V11 V72 : LV) (m : LMem) (d : Nat) : ∀ (i : Nat) (s : Int), i + d = rs.length → 0 ≤ s → s + 120 * d ≤ 1000 →
    exF LP law07_ShareBetter.L1 [(5, V5), (11, V11), (13, .int .i64 s), (72, V72), (76, VL false true 1 (WR (vals rs) o)), (77, .int .i64 (rs.length : Int)), (78, .int .i64 (i : Int))] m =
      some (.exit 4, [(5, V5), (11, V11), (13, .int .i64 (s + ownT (vals rs) o i d)), (72, V72)], m) := by
  have h4 := D.le4
  induction d with
  | zero =>
    intro i s hi _ _
    have e0 : ownT (vals rs) o i 0 = 0 := rfl
    rw [law07_ShareBetter.L1_eq, e0, Int.add_zero]
    simp only [law07_ShareBetter.B1, beqT, beqF, exF_seq, exF_region, exF_block, exF_cond, exF_ret, exF_exit, exF_skip, runL, wantL, stepL, evL, evC, LEnv.at, putL, loadFine, loadL, cellsAt, Trk.putNew, Trk.up, Trk.touch, Trk.gives, Trk.calm, Trk.hit, opdsOf, Trk.fresh, LEnv.keep, LEnv.ofFrom, List.map_cons, List.map_nil, nbeq, nble, nblt, ofAV, ofAVs, lenL, bin_add, bin_sub, bin_mul, bin_eql, bin_neq, bin_lss, bin_leq, bin_gtr, bin_geq, natL_nat, natL_zero, natL_one, natL_two, Nat.zero_mul, List.any_cons, List.any_nil, Bool.or_false, Bool.false_or, Bool.true_or, Bool.or_true, Bool.and_true, Bool.true_and, Bool.and_false, Bool.false_and, Bool.not_true, Bool.not_false, Nat.reduceBEq, Nat.reduceEqDiff, decide_true, decide_false, cond_true, cond_false, List.filter_nil, List.filter_cons, Nat.reduceAdd, Nat.reduceLeDiff, reduceCtorEq, List.length_nil, List.length_cons, Nat.mul_one, if_true, if_false, Bool.false_eq_true, eq_self, and_true, true_and, retL, resultsL, resAllL, resOfL, List.append_nil, List.nil_append, List.cons_append, true_or, or_true, false_or, or_false, false_and, and_false, not_true_eq_false, not_false_eq_true, ne_eq, unL, trim_nil, views_pures, LV.pures, LV.pure, freeze, Nat.reduceDiv, Int.reduceEq, Int.reduceLT, Int.reduceLE, Int.natCast_zero, LV.cells, allocL, List.getElem?_cons_zero, List.getElem?_cons_succ, storeL, spliceL, List.take_zero, List.take_succ_cons, List.drop_zero, List.drop_succ_cons, List.drop_nil, List.take_nil, Nat.le_refl, Nat.reduceMul, List.set_cons_zero, List.set_cons_succ, LV.scalar, List.all_cons, List.all_nil, Nat.lt_add_one, Nat.zero_lt_one, Nat.reduceLT, Nat.lt_irrefl, fillL, List.length_append, foldIntL, kind_beq, pures_int, solids_int, plains_int, unders_int, scalars_int, show ¬ ((i : Int) < (rs.length : Int)) by omega]
  | succ d ih =>
    intro i s hi h0 hb
    have hir : i < rs.length := by omega
    have hws := wrap_succ (show i + 1 < 9223372036854775808 by omega)
    have hA : (WR (vals rs) o).length = rs.length := by rw [WR_len, vals_length]
    have a1 := wr_row o hir
    have a2 := wr_int o hir hir
    have al := wrow_len (vals rs) o i rs.length
    have ev := vals_at rs i hir
    have b1 := ws_bound (i : Int) rs[i].l o 0 (D.ok i hir) (by omega)
    have hl6 := D.len i hir
    have h6 := D.le6
    rw [ownT_succ, ev, ← Int.add_assoc]
    have hw : IntKind.i64.wrap (s + ws (i : Int) rs[i].l o 0) = s + ws (i : Int) rs[i].l o 0 := wrap_in (by omega)
    have ih1 := ih (i + 1) (s + ws (i : Int) rs[i].l o 0) (by omega) (by omega) (by omega)
    generalize ws (i : Int) rs[i].l o 0 = x at *
    rw [law07_ShareBetter.L1_eq, ← ih1]
    simp (maxSteps := 1000000) only [law07_ShareBetter.B1, beqT, beqF, exF_seq, exF_region, exF_block, exF_cond, exF_ret, exF_exit, exF_skip, runL, wantL, stepL, evL, evC, LEnv.at, putL, loadFine, loadL, cellsAt, Trk.putNew, Trk.up, Trk.touch, Trk.gives, Trk.calm, Trk.hit, opdsOf, Trk.fresh, LEnv.keep, LEnv.ofFrom, List.map_cons, List.map_nil, nbeq, nble, nblt, ofAV, ofAVs, lenL, bin_add, bin_sub, bin_mul, bin_eql, bin_neq, bin_lss, bin_leq, bin_gtr, bin_geq, natL_nat, natL_zero, natL_one, natL_two, Nat.zero_mul, List.any_cons, List.any_nil, Bool.or_false, Bool.false_or, Bool.true_or, Bool.or_true, Bool.and_true, Bool.true_and, Bool.and_false, Bool.false_and, Bool.not_true, Bool.not_false, Nat.reduceBEq, Nat.reduceEqDiff, decide_true, decide_false, cond_true, cond_false, List.filter_nil, List.filter_cons, Nat.reduceAdd, Nat.reduceLeDiff, reduceCtorEq, List.length_nil, List.length_cons, Nat.mul_one, if_true, if_false, Bool.false_eq_true, eq_self, and_true, true_and, retL, resultsL, resAllL, resOfL, List.append_nil, List.nil_append, List.cons_append, true_or, or_true, false_or, or_false, false_and, and_false, not_true_eq_false, not_false_eq_true, ne_eq, unL, trim_nil, views_pures, LV.pures, LV.pure, freeze, Nat.reduceDiv, Int.reduceEq, Int.reduceLT, Int.reduceLE, Int.natCast_zero, LV.cells, allocL, List.getElem?_cons_zero, List.getElem?_cons_succ, storeL, spliceL, List.take_zero, List.take_succ_cons, List.drop_zero, List.drop_succ_cons, List.drop_nil, List.take_nil, Nat.le_refl, Nat.reduceMul, List.set_cons_zero, List.set_cons_succ, LV.scalar, List.all_cons, List.all_nil, Nat.lt_add_one, Nat.zero_lt_one, Nat.reduceLT, Nat.lt_irrefl, fillL, List.length_append, foldIntL, kind_beq, pures_int, solids_int, plains_int, unders_int, scalars_int, show ((i : Int) < (rs.length : Int)) by omega, hA, hir, a1, a2, al, hw, hws]
theorem better_L2 {rs : List Row} {o : List Int} (D : LOk rs o) (V5 V16 V72 : LV) (m : LMem) (d : Nat) : ∀ (i : Nat) (s : Int), i + d = rs.length → -1000 + 120 * (d : Int) ≤ s → s ≤ 1000 →
    exF LP law07_ShareBetter.L2 [(5, V5), (13, .int .i64 s), (16, V16), (72, V72), (119, VL false true 1 (WR (vals rs) o)), (120, .int .i64 (rs.length : Int)), (121, .int .i64 (i : Int))] m =
      some (.exit 6, [(5, V5), (13, .int .i64 (s - ownT (vals rs) o i d)), (16, V16), (72, V72)], m) := by
  have h4 := D.le4
  induction d with
  | zero =>
    intro i s hi _ _
    have e0 : ownT (vals rs) o i 0 = 0 := rfl
    rw [law07_ShareBetter.L2_eq, e0, Int.sub_zero]
    simp only [law07_ShareBetter.B2, beqT, beqF, exF_seq, exF_region, exF_block, exF_cond, exF_ret, exF_exit, exF_skip, runL, wantL, stepL, evL, evC, LEnv.at, putL, loadFine, loadL, cellsAt, Trk.putNew, Trk.up, Trk.touch, Trk.gives, Trk.calm, Trk.hit, opdsOf, Trk.fresh, LEnv.keep, LEnv.ofFrom, List.map_cons, List.map_nil, nbeq, nble, nblt, ofAV, ofAVs, lenL, bin_add, bin_sub, bin_mul, bin_eql, bin_neq, bin_lss, bin_leq, bin_gtr, bin_geq, natL_nat, natL_zero, natL_one, natL_two, Nat.zero_mul, List.any_cons, List.any_nil, Bool.or_false, Bool.false_or, Bool.true_or, Bool.or_true, Bool.and_true, Bool.true_and, Bool.and_false, Bool.false_and, Bool.not_true, Bool.not_false, Nat.reduceBEq, Nat.reduceEqDiff, decide_true, decide_false, cond_true, cond_false, List.filter_nil, List.filter_cons, Nat.reduceAdd, Nat.reduceLeDiff, reduceCtorEq, List.length_nil, List.length_cons, Nat.mul_one, if_true, if_false, Bool.false_eq_true, eq_self, and_true, true_and, retL, resultsL, resAllL, resOfL, List.append_nil, List.nil_append, List.cons_append, true_or, or_true, false_or, or_false, false_and, and_false, not_true_eq_false, not_false_eq_true, ne_eq, unL, trim_nil, views_pures, LV.pures, LV.pure, freeze, Nat.reduceDiv, Int.reduceEq, Int.reduceLT, Int.reduceLE, Int.natCast_zero, LV.cells, allocL, List.getElem?_cons_zero, List.getElem?_cons_succ, storeL, spliceL, List.take_zero, List.take_succ_cons, List.drop_zero, List.drop_succ_cons, List.drop_nil, List.take_nil, Nat.le_refl, Nat.reduceMul, List.set_cons_zero, List.set_cons_succ, LV.scalar, List.all_cons, List.all_nil, Nat.lt_add_one, Nat.zero_lt_one, Nat.reduceLT, Nat.lt_irrefl, fillL, List.length_append, foldIntL, kind_beq, pures_int, solids_int, plains_int, unders_int, scalars_int, show ¬ ((i : Int) < (rs.length : Int)) by omega]
  | succ d ih =>
    intro i s hi h0 hb
    have hir : i < rs.length := by omega
    have hws := wrap_succ (show i + 1 < 9223372036854775808 by omega)
    have hA : (WR (vals rs) o).length = rs.length := by rw [WR_len, vals_length]
    have a1 := wr_row o hir
    have a2 := wr_int o hir hir
    have al := wrow_len (vals rs) o i rs.length
    have ev := vals_at rs i hir
    have b1 := ws_bound (i : Int) rs[i].l o 0 (D.ok i hir) (by omega)
    have hl6 := D.len i hir
    have h6 := D.le6
    rw [ownT_succ, ev, ← Int.sub_sub]
    have hw : IntKind.i64.wrap (s - ws (i : Int) rs[i].l o 0) = s - ws (i : Int) rs[i].l o 0 := wrap_in (by omega)
    have ih1 := ih (i + 1) (s - ws (i : Int) rs[i].l o 0) (by omega) (by omega) (by omega)
    generalize ws (i : Int) rs[i].l o 0 = x at *
    rw [law07_ShareBetter.L2_eq, ← ih1]
    simp (maxSteps := 1000000) only [law07_ShareBetter.B2, beqT, beqF, exF_seq, exF_region, exF_block, exF_cond, exF_ret, exF_exit, exF_skip, runL, wantL, stepL, evL, evC, LEnv.at, putL, loadFine, loadL, cellsAt, Trk.putNew, Trk.up, Trk.touch, Trk.gives, Trk.calm, Trk.hit, opdsOf, Trk.fresh, LEnv.keep, LEnv.ofFrom, List.map_cons, List.map_nil, nbeq, nble, nblt, ofAV, ofAVs, lenL, bin_add, bin_sub, bin_mul, bin_eql, bin_neq, bin_lss, bin_leq, bin_gtr, bin_geq, natL_nat, natL_zero, natL_one, natL_two, Nat.zero_mul, List.any_cons, List.any_nil, Bool.or_false, Bool.false_or, Bool.true_or, Bool.or_true, Bool.and_true, Bool.true_and, Bool.and_false, Bool.false_and, Bool.not_true, Bool.not_false, Nat.reduceBEq, Nat.reduceEqDiff, decide_true, decide_false, cond_true, cond_false, List.filter_nil, List.filter_cons, Nat.reduceAdd, Nat.reduceLeDiff, reduceCtorEq, List.length_nil, List.length_cons, Nat.mul_one, if_true, if_false, Bool.false_eq_true, eq_self, and_true, true_and, retL, resultsL, resAllL, resOfL, List.append_nil, List.nil_append, List.cons_append, true_or, or_true, false_or, or_false, false_and, and_false, not_true_eq_false, not_false_eq_true, ne_eq, unL, trim_nil, views_pures, LV.pures, LV.pure, freeze, Nat.reduceDiv, Int.reduceEq, Int.reduceLT, Int.reduceLE, Int.natCast_zero, LV.cells, allocL, List.getElem?_cons_zero, List.getElem?_cons_succ, storeL, spliceL, List.take_zero, List.take_succ_cons, List.drop_zero, List.drop_succ_cons, List.drop_nil, List.take_nil, Nat.le_refl, Nat.reduceMul, List.set_cons_zero, List.set_cons_succ, LV.scalar, List.all_cons, List.all_nil, Nat.lt_add_one, Nat.zero_lt_one, Nat.reduceLT, Nat.lt_irrefl, fillL, List.length_append, foldIntL, kind_beq, pures_int, solids_int, plains_int, unders_int, scalars_int, show ((i : Int) < (rs.length : Int)) by omega, hA, hir, a1, a2, al, hw, hws]
theorem ownT_bound {rs : List Row} {o : List Int} (D : LOk rs o) (d : Nat) : ∀ i, i + d = rs.length → 0 ≤ ownT (vals rs) o i d ∧ ownT (vals rs) o i d ≤ 120 * d := by
  induction d with
  | zero => intro i _; exact ⟨Int.le_refl _, Int.le_refl _⟩
  | succ d ih =>
    intro i hi
    have hir : i < rs.length := by omega
    have b1 := ws_bound (i : Int) rs[i].l o 0 (D.ok i hir) (by omega)
    have hl6 := D.len i hir
    have h6 := D.le6
    have := ih (i + 1) (by omega)
    rw [ownT_succ, vals_at rs i hir]
    omega
/-- What the program's better division is. -/
structure BetOk (rs : List Row) (L : Nat) : Prop where
  hD : ∀ o : List Int, o.length = L → (∀ x ∈ o, 0 ≤ x ∧ x < (rs.length : Int)) → LOk rs o
  hdv : ∀ o : List Int, o.length = L → (∀ x ∈ o, 0 ≤ x ∧ x < (rs.length : Int)) → divE (vals rs) o = 0
  pos : 0 < rs.length
  le4 : rs.length ≤ 4
  hV0 : ((vals rs).getD 0 []).length = L
theorem betterV_eq {rs : List Row} {L : Nat} (B : BetOk rs L) {o : List Int} (ho : o.length = L) (hr : ∀ x ∈ o, 0 ≤ x ∧ x < (rs.length : Int)) :
    betterV (vals rs) o = ((allR rs.length L).find? fun q => better (vals rs) q o).getD [] ∧ betterE (vals rs) o = if (allR rs.length L).find? (fun q => better (vals rs) q o) = none then 13 else 0 := by
  have hd := B.hdv o ho hr
  unfold betterV betterE
  rw [if_pos hd, if_neg (by simpa using hd), vals_length, B.hV0, allR_D]
  exact ⟨rfl, rfl⟩
theorem better_R1 {rs : List Row} {o q : List Int} (Do : LOk rs o) (Dq : LOk rs q) (hq : ∀ x ∈ q, 0 ≤ x ∧ x < (rs.length : Int)) (hb : better (vals rs) q o = true) (b0 c0 : Bool) (z0 : Nat) (a1 a2 b1 b2 : Bool) (z1 z2 : Nat) (V13 V72 V97 : LV) (m : LMem) (hm : m[2]? = some ⟨[VL b0 c0 z0 rs], true⟩) :
    exF LP law07_ShareBetter.B3.R1 [(5, .ptr 2 0 1), (11, IL a1 a2 z1 o), (13, V13), (16, IL b1 b2 z2 q), (17, .int .i64 0), (72, V72), (97, V97)] m = some (.normal, [(5, .ptr 2 0 1), (13, V13), (16, IL b1 b2 z2 q), (72, V72), (116, .bool false)], m) := by
  have hp := fun m => proper_c b0 c0 b1 b2 z0 z2 Dq hq m
  have hw1 := fun m => worths_c b0 c0 b1 b2 z0 z2 Dq m
  have hw2 := fun m => worths_c b0 c0 a1 a2 z0 z1 Do m
  have hbt := fun m => lbetter_c Dq Do m
  rw [hb] at hbt
  have hn : ¬ m.length ≤ 2 := by have := (List.getElem?_eq_some_iff.1 hm).1; omega
  generalize VL b0 c0 z0 rs = VV at *
  generalize VL false true 1 (WR (vals rs) q) = VQ at *
  generalize VL false true 1 (WR (vals rs) o) = VO at *
  generalize IL a1 a2 z1 o = lo at *
  generalize IL b1 b2 z2 q = lq at *
  simp (maxSteps := 1000000) only [law07_ShareBetter.B3.R1, beqT, beqF, exF_seq, exF_region, exF_block, exF_cond, exF_ret, exF_exit, exF_skip, runL, wantL, stepL, evL, evC, LEnv.at, putL, loadFine, loadL, cellsAt, Trk.putNew, Trk.up, Trk.touch, Trk.gives, Trk.calm, Trk.hit, opdsOf, Trk.fresh, LEnv.keep, LEnv.ofFrom, List.map_cons, List.map_nil, nbeq, nble, nblt, ofAV, ofAVs, bin_add, bin_sub, bin_mul, bin_eql, bin_neq, bin_lss, bin_leq, bin_gtr, bin_geq, natL_nat, natL_zero, natL_one, natL_two, Nat.zero_mul, List.any_cons, List.any_nil, Bool.or_false, Bool.false_or, Bool.true_or, Bool.or_true, Bool.and_true, Bool.true_and, Bool.and_false, Bool.false_and, Bool.not_true, Bool.not_false, Nat.reduceBEq, Nat.reduceEqDiff, decide_true, decide_false, cond_true, cond_false, List.filter_nil, List.filter_cons, Nat.reduceAdd, Nat.reduceLeDiff, reduceCtorEq, List.length_nil, List.length_cons, Nat.mul_one, if_true, if_false, Bool.false_eq_true, eq_self, and_true, true_and, retL, resultsL, resAllL, resOfL, List.append_nil, List.nil_append, List.cons_append, true_or, or_true, false_or, or_false, false_and, and_false, not_true_eq_false, not_false_eq_true, ne_eq, unL, trim_nil, views_pures, LV.pures, LV.pure, freeze, Nat.reduceDiv, Int.reduceEq, Int.reduceLT, Int.reduceLE, Int.natCast_zero, LV.cells, allocL, List.getElem?_cons_zero, List.getElem?_cons_succ, storeL, spliceL, List.take_zero, List.take_succ_cons, List.drop_zero, List.drop_succ_cons, List.drop_nil, List.take_nil, Nat.le_refl, Nat.reduceMul, List.set_cons_zero, List.set_cons_succ, LV.scalar, List.all_cons, List.all_nil, Nat.lt_add_one, Nat.zero_lt_one, Nat.reduceLT, Nat.lt_irrefl, fillL, List.length_append, foldIntL, kind_beq, pures_int, solids_int, plains_int, unders_int, scalars_int, hm, hn, hp, hw1, hw2, hbt]
theorem better_L3 {rs : List Row} {L : Nat} (B : BetOk rs L) (b0 c0 : Bool) (z0 : Nat) (m : LMem) (hm : m[2]? = some ⟨[VL b0 c0 z0 rs], true⟩) (d : Nat) : ∀ (i : Nat) (o : List Int) (a1 a2 : Bool) (z1 : Nat), i + d = 50 → o.length = L → (∀ x ∈ o, 0 ≤ x ∧ x < (rs.length : Int)) → (o = [] ∨ z1 = 1) → (a1 = true → o = []) →
    exF LP law07_ShareBetter.L3 [(5, .ptr 2 0 1), (11, IL a1 a2 z1 o), (72, .int .i64 (i : Int))] m = some (.ret, [(4, .bool true)], m) ∨ exF LP law07_ShareBetter.L3 [(5, .ptr 2 0 1), (11, IL a1 a2 z1 o), (72, .int .i64 (i : Int))] m = some (.exit 2, [], m) := by
  have h4 := B.le4
  induction d with
  | zero =>
    intro i o a1 a2 z1 hi _ _ _ _
    right
    rw [law07_ShareBetter.L3_eq]
    simp only [law07_ShareBetter.B3, beqT, beqF, exF_seq, exF_region, exF_block, exF_cond, exF_ret, exF_exit, exF_skip, runL, wantL, stepL, evL, evC, LEnv.at, putL, loadFine, loadL, cellsAt, Trk.putNew, Trk.up, Trk.touch, Trk.gives, Trk.calm, Trk.hit, opdsOf, Trk.fresh, LEnv.keep, LEnv.ofFrom, List.map_cons, List.map_nil, nbeq, nble, nblt, ofAV, ofAVs, lenL, bin_add, bin_sub, bin_mul, bin_eql, bin_neq, bin_lss, bin_leq, bin_gtr, bin_geq, natL_nat, natL_zero, natL_one, natL_two, Nat.zero_mul, List.any_cons, List.any_nil, Bool.or_false, Bool.false_or, Bool.true_or, Bool.or_true, Bool.and_true, Bool.true_and, Bool.and_false, Bool.false_and, Bool.not_true, Bool.not_false, Nat.reduceBEq, Nat.reduceEqDiff, decide_true, decide_false, cond_true, cond_false, List.filter_nil, List.filter_cons, Nat.reduceAdd, Nat.reduceLeDiff, reduceCtorEq, List.length_nil, List.length_cons, Nat.mul_one, if_true, if_false, Bool.false_eq_true, eq_self, and_true, true_and, retL, resultsL, resAllL, resOfL, List.append_nil, List.nil_append, List.cons_append, true_or, or_true, false_or, or_false, false_and, and_false, not_true_eq_false, not_false_eq_true, ne_eq, unL, trim_nil, views_pures, LV.pures, LV.pure, freeze, Nat.reduceDiv, Int.reduceEq, Int.reduceLT, Int.reduceLE, Int.natCast_zero, LV.cells, allocL, List.getElem?_cons_zero, List.getElem?_cons_succ, storeL, spliceL, List.take_zero, List.take_succ_cons, List.drop_zero, List.drop_succ_cons, List.drop_nil, List.take_nil, Nat.le_refl, Nat.reduceMul, List.set_cons_zero, List.set_cons_succ, LV.scalar, List.all_cons, List.all_nil, Nat.lt_add_one, Nat.zero_lt_one, Nat.reduceLT, Nat.lt_irrefl, fillL, List.length_append, foldIntL, kind_beq, pures_int, solids_int, plains_int, unders_int, scalars_int, show ¬ ((i : Int) < 50) by omega]
  | succ d ih =>
    intro i o a1 a2 z1 hi ho hr h1 h2
    have D := B.hD o ho hr
    have hws := wrap_succ (show i + 1 < 9223372036854775808 by omega)
    have hw := fun m => worths_c b0 c0 a1 a2 z0 z1 D m
    have l1 := better_L1 D (.ptr 2 0 1) (IL a1 a2 z1 o) (.int .i64 (i : Int)) m rs.length 0 0 (by omega) (by omega) (by omega)
    rw [Int.zero_add, Int.natCast_zero] at l1
    obtain ⟨e1, e2, z2, q1, q2, hbet⟩ := betterP_f b0 c0 a1 a2 z0 z1 rs o (in_lok D h1 h2)
    obtain ⟨v1, v2⟩ := betterV_eq B ho hr
    rw [v1, v2] at hbet
    rw [v1] at q1 q2
    have lW : lenL (VL false true 1 (WR (vals rs) o)) = some rs.length := by show some (WR (vals rs) o).length = _; rw [WR_len, vals_length]
    have hn : ¬ m.length ≤ 2 := by have := (List.getElem?_eq_some_iff.1 hm).1; omega
    cases hs : (allR rs.length L).find? fun q => better (vals rs) q o with
    | none =>
      left
      rw [hs] at hbet
      simp only [if_true, Option.getD_none] at hbet
      rw [law07_ShareBetter.L3_eq]
      generalize VL b0 c0 z0 rs = VV at *
      generalize VL false true 1 (WR (vals rs) o) = VO at *
      generalize IL a1 a2 z1 o = lo at *
      generalize IL e1 e2 z2 [] = lq at *
      generalize ownT (vals rs) o 0 rs.length = S at *
      simp (maxSteps := 1000000) only [law07_ShareBetter.B3, law07_ShareBetter.B3.R0, beqT, beqF, exF_seq, exF_region, exF_block, exF_cond, exF_ret, exF_exit, exF_skip, runL, wantL, stepL, evL, evC, LEnv.at, putL, loadFine, loadL, cellsAt, Trk.putNew, Trk.up, Trk.touch, Trk.gives, Trk.calm, Trk.hit, opdsOf, Trk.fresh, LEnv.keep, LEnv.ofFrom, List.map_cons, List.map_nil, nbeq, nble, nblt, ofAV, ofAVs, bin_add, bin_sub, bin_mul, bin_eql, bin_neq, bin_lss, bin_leq, bin_gtr, bin_geq, natL_nat, natL_zero, natL_one, natL_two, Nat.zero_mul, List.any_cons, List.any_nil, Bool.or_false, Bool.false_or, Bool.true_or, Bool.or_true, Bool.and_true, Bool.true_and, Bool.and_false, Bool.false_and, Bool.not_true, Bool.not_false, Nat.reduceBEq, Nat.reduceEqDiff, decide_true, decide_false, cond_true, cond_false, List.filter_nil, List.filter_cons, Nat.reduceAdd, Nat.reduceLeDiff, reduceCtorEq, List.length_nil, List.length_cons, Nat.mul_one, if_true, if_false, Bool.false_eq_true, eq_self, and_true, true_and, retL, resultsL, resAllL, resOfL, List.append_nil, List.nil_append, List.cons_append, true_or, or_true, false_or, or_false, false_and, and_false, not_true_eq_false, not_false_eq_true, ne_eq, unL, trim_nil, views_pures, LV.pures, LV.pure, freeze, Nat.reduceDiv, Int.reduceEq, Int.reduceLT, Int.reduceLE, Int.natCast_zero, LV.cells, allocL, List.getElem?_cons_zero, List.getElem?_cons_succ, storeL, spliceL, List.take_zero, List.take_succ_cons, List.drop_zero, List.drop_succ_cons, List.drop_nil, List.take_nil, Nat.le_refl, Nat.reduceMul, List.set_cons_zero, List.set_cons_succ, LV.scalar, List.all_cons, List.all_nil, Nat.lt_add_one, Nat.zero_lt_one, Nat.reduceLT, Nat.lt_irrefl, fillL, List.length_append, foldIntL, kind_beq, pures_int, solids_int, plains_int, unders_int, scalars_int, show ((i : Int) < 50) by omega, hm, hw, lW, l1, hbet, works_c]
    | some q =>
      have hqm := List.mem_of_find?_eq_some hs
      have hqb := List.find?_some hs
      have hql := allR_length _ _ _ hqm
      have hqr := allR_mem _ _ _ hqm
      have Dq := B.hD q hql hqr
      rw [hs] at hbet q1 q2
      have hne : ¬ ((some q : Option (List Int)) = none) := by simp
      rw [if_neg hne] at hbet
      simp only [Option.getD_some] at hbet q1 q2
      have hw2 := fun m => worths_c b0 c0 e1 e2 z0 z2 Dq m
      have lQ : lenL (VL false true 1 (WR (vals rs) q)) = some rs.length := by show some (WR (vals rs) q).length = _; rw [WR_len, vals_length]
      have bo := ownT_bound D rs.length 0 (by omega)
      have bq := ownT_bound Dq rs.length 0 (by omega)
      have hlt := better_sum (vals rs) q o hqb
      rw [vals_length] at hlt
      have l2 := better_L2 Dq (.ptr 2 0 1) (IL e1 e2 z2 q) (.int .i64 (i : Int)) m rs.length 0 (ownT (vals rs) o 0 rs.length) (by omega) (by omega) (by omega)
      rw [Int.natCast_zero] at l2
      have r1 := better_R1 D Dq hqr hqb b0 c0 z0 a1 a2 e1 e2 z1 z2 (.int .i64 (ownT (vals rs) o 0 rs.length)) (.int .i64 (i : Int)) (.bool false) m hm
      have hneg : ¬ (0 ≤ ownT (vals rs) o 0 rs.length - ownT (vals rs) q 0 rs.length) := by omega
      have ih1 := ih (i + 1) q e1 e2 z2 (by omega) hql hqr q1 q2
      have step : exF LP law07_ShareBetter.L3 [(5, .ptr 2 0 1), (11, IL a1 a2 z1 o), (72, .int .i64 (i : Int))] m = exF LP law07_ShareBetter.L3 [(5, .ptr 2 0 1), (11, IL e1 e2 z2 q), (72, .int .i64 ((i + 1 : Nat) : Int))] m := by
        rw [law07_ShareBetter.L3_eq]
        generalize VL b0 c0 z0 rs = VV at *
        generalize VL false true 1 (WR (vals rs) o) = VO at *
        generalize VL false true 1 (WR (vals rs) q) = VQ at *
        generalize IL a1 a2 z1 o = lo at *
        generalize IL e1 e2 z2 q = lq at *
        generalize ownT (vals rs) o 0 rs.length = S at *
        generalize ownT (vals rs) q 0 rs.length = S2 at *
        simp (maxSteps := 1000000) only [law07_ShareBetter.B3, law07_ShareBetter.B3.R0, beqT, beqF, exF_seq, exF_region, exF_block, exF_cond, exF_ret, exF_exit, exF_skip, runL, wantL, stepL, evL, evC, LEnv.at, putL, loadFine, loadL, cellsAt, Trk.putNew, Trk.up, Trk.touch, Trk.gives, Trk.calm, Trk.hit, opdsOf, Trk.fresh, LEnv.keep, LEnv.ofFrom, List.map_cons, List.map_nil, nbeq, nble, nblt, ofAV, ofAVs, bin_add, bin_sub, bin_mul, bin_eql, bin_neq, bin_lss, bin_leq, bin_gtr, bin_geq, natL_nat, natL_zero, natL_one, natL_two, Nat.zero_mul, List.any_cons, List.any_nil, Bool.or_false, Bool.false_or, Bool.true_or, Bool.or_true, Bool.and_true, Bool.true_and, Bool.and_false, Bool.false_and, Bool.not_true, Bool.not_false, Nat.reduceBEq, Nat.reduceEqDiff, decide_true, decide_false, cond_true, cond_false, List.filter_nil, List.filter_cons, Nat.reduceAdd, Nat.reduceLeDiff, reduceCtorEq, List.length_nil, List.length_cons, Nat.mul_one, if_true, if_false, Bool.false_eq_true, eq_self, and_true, true_and, retL, resultsL, resAllL, resOfL, List.append_nil, List.nil_append, List.cons_append, true_or, or_true, false_or, or_false, false_and, and_false, not_true_eq_false, not_false_eq_true, ne_eq, unL, trim_nil, views_pures, LV.pures, LV.pure, freeze, Nat.reduceDiv, Int.reduceEq, Int.reduceLT, Int.reduceLE, Int.natCast_zero, LV.cells, allocL, List.getElem?_cons_zero, List.getElem?_cons_succ, storeL, spliceL, List.take_zero, List.take_succ_cons, List.drop_zero, List.drop_succ_cons, List.drop_nil, List.take_nil, Nat.le_refl, Nat.reduceMul, List.set_cons_zero, List.set_cons_succ, LV.scalar, List.all_cons, List.all_nil, Nat.lt_add_one, Nat.zero_lt_one, Nat.reduceLT, Nat.lt_irrefl, fillL, List.length_append, foldIntL, kind_beq, pures_int, solids_int, plains_int, unders_int, scalars_int, show ((i : Int) < 50) by omega, hm, hw, hw2, lW, lQ, l1, hbet, r1, l2, hneg, ge_iff_le, hws]
      rw [step]
      exact ih1
end Go.Am.Share


