import Derived.Test.YtcckhkcchpfdoaaShareD4
/-
  What functions of chapter 07 compute, outright 5: the law 'ShareJudged'.
-/
set_option linter.unusedVariables false
set_option linter.unusedSimpArgs false
set_option maxRecDepth 10000
set_option maxHeartbeats 400000
namespace Go.Am.Share
open Go.Am.G

theorem rsM_ok (w : List Nat) (M n r : Nat) (hM : M ≤ 20) (hn : n ≤ 6) (h1 : 1 ≤ r) (h4 : r ≤ 4) (o : List Int) (hol : o.length = n) (ho : ∀ x ∈ o, -1 ≤ x ∧ x < (r : Int)) : LOk (rsM w M n r) o where
  pos := by rw [rsM_len]; omega
  le4 := by rw [rsM_len]; omega
  len i h := by rw [rsM_at, rowR]; show o.length = (rowL _ M n).length; rw [rowL_len, hol]
  ok i h := by rw [rsM_at]; exact rowL_20 _ _ _ hM
  le6 := by omega
  own x hx := by rw [rsM_len]; exact ho x hx
theorem chkM (w : List Nat) (M n r : Nat) (hM : M ≤ 20) (hn : n ≤ 6) (h1 : 1 ≤ r) (h4 : r ≤ 4) : chkV (rowsM w M n r) = 0 := by
  have hl := rowsM_len w M n r
  have h0 : ((rowsM w M n r).getD 0 []).length = n := by
    have e : (rowsM w M n r).getD 0 [] = rowL (cut6 w 0) M n := by
      rw [List.getD_eq_getElem?_getD, List.getElem?_eq_getElem (by omega)]
      simp [rowsM]
    rw [e, rowL_len]
  unfold chkV
  rw [if_neg (by omega), if_neg (by rw [h0]; omega), h0]
  have key : ∀ vs : List (List Int), (∀ v ∈ vs, v.length = n ∧ Ok20 v) → rowsChk n vs = 0 := by
    intro vs
    induction vs with
    | nil => intro _; rfl
    | cons v vs ih =>
      intro h
      obtain ⟨a, b⟩ := h v (by simp)
      rw [rowsChk, if_neg (by omega), if_neg, ih fun x hx => h x (by simp [hx])]
      rw [Bool.not_eq_true, List.any_eq_false]
      intro x hx
      have := b x hx
      simp [inB]; omega
  refine key _ fun v hv => ?_
  obtain ⟨i, _, rfl⟩ := List.mem_map.1 hv
  exact ⟨rowL_len _ _ _, rowL_20 _ _ _ hM⟩
theorem divM (w : List Nat) (M n r : Nat) (hM : M ≤ 20) (hn : n ≤ 6) (h1 : 1 ≤ r) (h4 : r ≤ 4) (o : List Int) (hol : o.length = n) (ho : ∀ x ∈ o, 0 ≤ x ∧ x < (r : Int)) : divE (rowsM w M n r) o = 0 := by
  have hl := rowsM_len w M n r
  have h0 : ((rowsM w M n r).getD 0 []).length = n := by
    have e : (rowsM w M n r).getD 0 [] = rowL (cut6 w 0) M n := by
      rw [List.getD_eq_getElem?_getD, List.getElem?_eq_getElem (by omega)]
      simp [rowsM]
    rw [e, rowL_len]
  unfold divE
  rw [chkM w M n r hM hn h1 h4, if_neg (by simp), if_neg (by omega), if_neg]
  rw [Bool.not_eq_true, List.any_eq_false]
  intro x hx
  have := ho x hx
  rw [hl]
  simp [inB]; omega
theorem in_lok {rs : List Row} {o : List Int} (D : LOk rs o) {b : Bool} {z : Nat} (h1 : o = [] ∨ z = 1) (h2 : b = true → o = []) : In rs b z o where
  hl := by have := D.le4; omega
  hr r hr := by
    obtain ⟨i, hi, e⟩ := List.getElem_of_mem hr
    have := D.len i hi
    have := D.le6
    rw [← e]; omega
  ho := by have := D.le6; omega
  hsz := h1
  hnl := h2

/-! ### Two lists in memory -/
theorem Hold.lt {m : LMem} {v : LV} {l : List Int} (H : Hold m v l) (i : Nat) (h : isBlk v i) : i < m.length := by
  rcases H with ⟨_, h2⟩ | ⟨_, b, o, h2, h3⟩
  · rw [h2] at h; cases h
  · rw [h2] at h; cases h; exact (List.getElem?_eq_some_iff.1 h3).1
section
variable (b0 c0 : Bool) (z0 : Nat) {rs : List Row} {o : List Int} (D : LOk rs o) (hd : divE (vals rs) o = 0)
include D hd
end
end Go.Am.Share

/-
  What functions of chapter 07 compute, outright 8: the law 'ShareFree': one division.
-/
set_option linter.unusedVariables false
set_option linter.unusedSimpArgs false
set_option maxRecDepth 10000
set_option maxHeartbeats 400000
namespace Go.Am.Share
open Go.Am.G

theorem freeP_f (nl ex : Bool) (sz : Nat) (rs : List Row) (hl : rs.length < 1000000) (hr : ∀ r ∈ rs, r.l.length < 1000000) : ∃ nl' ex' sz', (freeV (vals rs) = [] ∨ sz' = 1) ∧ (nl' = true → freeV (vals rs) = []) ∧ ∀ m, clF LP n_share_Free [VL nl ex sz rs] m = some (.P, .tup [IL nl' ex' sz' (freeV (vals rs)), .int .i64 (freeE (vals rs))], m) := by
  have hc := fun m => check_c nl ex sz rs hl hr m
  unfold freeE freeV
  by_cases h1 : chkV (vals rs) = 0
  · have D := vok_of h1
    obtain ⟨m', e1, e2, e3⟩ := each_free nl ex sz D
    have hlen : ∀ q ∈ allD rs.length ((vals rs).getD 0 []).length, q.length = ((vals rs).getD 0 []).length := fun q hq => (allD_mem _ _ q hq).1
    rw [if_pos h1, if_neg (by simpa using h1)]
    unfold fairs
    rw [vals_length]
    have hmem : ∀ q, ((allD rs.length ((vals rs).getD 0 []).length).filter (fairI (vals rs))).head? = some q → q.length = ((vals rs).getD 0 []).length := fun q hq => by
      have := List.mem_of_mem_head? hq
      exact hlen q (List.mem_filter.1 this).1
    generalize (allD rs.length ((vals rs).getD 0 []).length).filter (fairI (vals rs)) = R at *
    generalize ((vals rs).getD 0 []).length = L at *
    cases R with
    | nil =>
      have e2 := e2 rfl
      subst e2
      refine ⟨true, true, 0, .inl rfl, fun _ => rfl, fun m => call_P lp_share_Free rfl (by simp [LV.pures, LV.pure]) (m1 := [⟨[.bool false], true⟩, ⟨[LNIL], true⟩]) ?_ (by simp [LV.pures, LV.pure]) m⟩
      simp only [share_Free, share_Free.B, beqT, beqF, exF_seq, exF_region, exF_block, exF_cond, exF_ret, exF_exit, exF_skip, runL, wantL, stepL, evL, evC, LEnv.at, putL, loadFine, loadL, cellsAt, Trk.putNew, Trk.up, Trk.touch, Trk.gives, Trk.calm, Trk.hit, opdsOf, Trk.fresh, LEnv.keep, LEnv.ofFrom, List.map_cons, List.map_nil, nbeq, nble, nblt, ofAV, ofAVs, lenL, bin_add, bin_sub, bin_mul, bin_eql, bin_neq, bin_lss, bin_leq, bin_gtr, bin_geq, natL_nat, natL_zero, natL_one, natL_two, Nat.zero_mul, List.any_cons, List.any_nil, Bool.or_false, Bool.false_or, Bool.true_or, Bool.or_true, Bool.and_true, Bool.true_and, Bool.and_false, Bool.false_and, Bool.not_true, Bool.not_false, Nat.reduceBEq, Nat.reduceEqDiff, decide_true, decide_false, cond_true, cond_false, List.filter_nil, List.filter_cons, Nat.reduceAdd, Nat.reduceLeDiff, reduceCtorEq, List.length_nil, List.length_cons, Nat.mul_one, if_true, if_false, Bool.false_eq_true, eq_self, and_true, true_and, retL, resultsL, resAllL, resOfL, List.append_nil, List.nil_append, List.cons_append, true_or, or_true, false_or, or_false, false_and, and_false, not_true_eq_false, not_false_eq_true, ne_eq, unL, trim_nil, views_pures, LV.pures, LV.pure, freeze, Nat.reduceDiv, Int.reduceEq, Int.reduceLT, Int.reduceLE, Int.natCast_zero, LV.cells, allocL, List.getElem?_cons_zero, List.getElem?_cons_succ, storeL, spliceL, List.take_zero, List.take_succ_cons, List.drop_zero, List.drop_succ_cons, List.drop_nil, List.take_nil, Nat.le_refl, Nat.reduceMul, List.set_cons_zero, List.set_cons_succ, LV.scalar, List.all_cons, List.all_nil, Nat.lt_add_one, Nat.zero_lt_one, Nat.reduceLT, Nat.lt_irrefl, fillL, List.length_append, foldIntL, kind_beq, pures_int, solids_int, plains_int, unders_int, scalars_int, hc, h1, e1]
      rfl
    | cons q r =>
      obtain ⟨f1, f2, f3⟩ := e3 q rfl
      have hq := hmem q rfl
      have hne : ¬ (q :: r = []) := by simp
      rw [if_neg hne, List.headD_cons]
      by_cases h : L = 0
      · subst h
        obtain rfl : q = [] := List.length_eq_zero_iff.1 hq
        simp only [CV, if_true] at f2
        refine ⟨false, true, 0, .inl rfl, fun _ => rfl, fun m => call_P lp_share_Free rfl (by simp [LV.pures, LV.pure]) (m1 := m') ?_ (by simp [LV.pures, LV.pure]) m⟩
        simp only [share_Free, share_Free.B, beqT, beqF, exF_seq, exF_region, exF_block, exF_cond, exF_ret, exF_exit, exF_skip, runL, wantL, stepL, evL, evC, LEnv.at, putL, loadFine, loadL, cellsAt, Trk.putNew, Trk.up, Trk.touch, Trk.gives, Trk.calm, Trk.hit, opdsOf, Trk.fresh, LEnv.keep, LEnv.ofFrom, List.map_cons, List.map_nil, nbeq, nble, nblt, ofAV, ofAVs, lenL, bin_add, bin_sub, bin_mul, bin_eql, bin_neq, bin_lss, bin_leq, bin_gtr, bin_geq, natL_nat, natL_zero, natL_one, natL_two, Nat.zero_mul, List.any_cons, List.any_nil, Bool.or_false, Bool.false_or, Bool.true_or, Bool.or_true, Bool.and_true, Bool.true_and, Bool.and_false, Bool.false_and, Bool.not_true, Bool.not_false, Nat.reduceBEq, Nat.reduceEqDiff, decide_true, decide_false, cond_true, cond_false, List.filter_nil, List.filter_cons, Nat.reduceAdd, Nat.reduceLeDiff, reduceCtorEq, List.length_nil, List.length_cons, Nat.mul_one, if_true, if_false, Bool.false_eq_true, eq_self, and_true, true_and, retL, resultsL, resAllL, resOfL, List.append_nil, List.nil_append, List.cons_append, true_or, or_true, false_or, or_false, false_and, and_false, not_true_eq_false, not_false_eq_true, ne_eq, unL, trim_nil, views_pures, LV.pures, LV.pure, freeze, Nat.reduceDiv, Int.reduceEq, Int.reduceLT, Int.reduceLE, Int.natCast_zero, LV.cells, allocL, List.getElem?_cons_zero, List.getElem?_cons_succ, storeL, spliceL, List.take_zero, List.take_succ_cons, List.drop_zero, List.drop_succ_cons, List.drop_nil, List.take_nil, Nat.le_refl, Nat.reduceMul, List.set_cons_zero, List.set_cons_succ, LV.scalar, List.all_cons, List.all_nil, Nat.lt_add_one, Nat.zero_lt_one, Nat.reduceLT, Nat.lt_irrefl, fillL, List.length_append, foldIntL, kind_beq, pures_int, solids_int, plains_int, unders_int, scalars_int, hc, h1, e1, f1, f2]
        rfl
      · have f3 := f3 h
        simp only [CV, if_neg h] at f2
        have hv := view_slq m' 8 L 1 q true 0 f3 hq
        refine ⟨false, Nat.beq 1 0, 1, .inr rfl, (fun h => by cases h), fun m => call_Pv lp_share_Free rfl (by simp [LV.pures, LV.pure]) ?_ hv m⟩
        simp only [share_Free, share_Free.B, beqT, beqF, exF_seq, exF_region, exF_block, exF_cond, exF_ret, exF_exit, exF_skip, runL, wantL, stepL, evL, evC, LEnv.at, putL, loadFine, loadL, cellsAt, Trk.putNew, Trk.up, Trk.touch, Trk.gives, Trk.calm, Trk.hit, opdsOf, Trk.fresh, LEnv.keep, LEnv.ofFrom, List.map_cons, List.map_nil, nbeq, nble, nblt, ofAV, ofAVs, lenL, bin_add, bin_sub, bin_mul, bin_eql, bin_neq, bin_lss, bin_leq, bin_gtr, bin_geq, natL_nat, natL_zero, natL_one, natL_two, Nat.zero_mul, List.any_cons, List.any_nil, Bool.or_false, Bool.false_or, Bool.true_or, Bool.or_true, Bool.and_true, Bool.true_and, Bool.and_false, Bool.false_and, Bool.not_true, Bool.not_false, Nat.reduceBEq, Nat.reduceEqDiff, decide_true, decide_false, cond_true, cond_false, List.filter_nil, List.filter_cons, Nat.reduceAdd, Nat.reduceLeDiff, reduceCtorEq, List.length_nil, List.length_cons, Nat.mul_one, if_true, if_false, Bool.false_eq_true, eq_self, and_true, true_and, retL, resultsL, resAllL, resOfL, List.append_nil, List.nil_append, List.cons_append, true_or, or_true, false_or, or_false, false_and, and_false, not_true_eq_false, not_false_eq_true, ne_eq, unL, trim_nil, views_pures, LV.pures, LV.pure, freeze, Nat.reduceDiv, Int.reduceEq, Int.reduceLT, Int.reduceLE, Int.natCast_zero, LV.cells, allocL, List.getElem?_cons_zero, List.getElem?_cons_succ, storeL, spliceL, List.take_zero, List.take_succ_cons, List.drop_zero, List.drop_succ_cons, List.drop_nil, List.take_nil, Nat.le_refl, Nat.reduceMul, List.set_cons_zero, List.set_cons_succ, LV.scalar, List.all_cons, List.all_nil, Nat.lt_add_one, Nat.zero_lt_one, Nat.reduceLT, Nat.lt_irrefl, fillL, List.length_append, foldIntL, kind_beq, pures_int, solids_int, plains_int, unders_int, scalars_int, hc, h1, e1, f1, f2]
  · rw [if_neg h1, if_pos (by simpa using h1)]
    refine ⟨true, true, 0, .inl rfl, fun _ => rfl, fun m => call_P lp_share_Free rfl (by simp [LV.pures, LV.pure]) (m1 := []) ?_ (by simp [LV.pures, LV.pure]) m⟩
    simp only [share_Free, share_Free.B, beqT, beqF, exF_seq, exF_region, exF_block, exF_cond, exF_ret, exF_exit, exF_skip, runL, wantL, stepL, evL, evC, LEnv.at, putL, loadFine, loadL, cellsAt, Trk.putNew, Trk.up, Trk.touch, Trk.gives, Trk.calm, Trk.hit, opdsOf, Trk.fresh, LEnv.keep, LEnv.ofFrom, List.map_cons, List.map_nil, nbeq, nble, nblt, ofAV, ofAVs, lenL, bin_add, bin_sub, bin_mul, bin_eql, bin_neq, bin_lss, bin_leq, bin_gtr, bin_geq, natL_nat, natL_zero, natL_one, natL_two, Nat.zero_mul, List.any_cons, List.any_nil, Bool.or_false, Bool.false_or, Bool.true_or, Bool.or_true, Bool.and_true, Bool.true_and, Bool.and_false, Bool.false_and, Bool.not_true, Bool.not_false, Nat.reduceBEq, Nat.reduceEqDiff, decide_true, decide_false, cond_true, cond_false, List.filter_nil, List.filter_cons, Nat.reduceAdd, Nat.reduceLeDiff, reduceCtorEq, List.length_nil, List.length_cons, Nat.mul_one, if_true, if_false, Bool.false_eq_true, eq_self, and_true, true_and, retL, resultsL, resAllL, resOfL, List.append_nil, List.nil_append, List.cons_append, true_or, or_true, false_or, or_false, false_and, and_false, not_true_eq_false, not_false_eq_true, ne_eq, unL, trim_nil, views_pures, LV.pures, LV.pure, freeze, Nat.reduceDiv, Int.reduceEq, Int.reduceLT, Int.reduceLE, Int.natCast_zero, LV.cells, allocL, List.getElem?_cons_zero, List.getElem?_cons_succ, storeL, spliceL, List.take_zero, List.take_succ_cons, List.drop_zero, List.drop_succ_cons, List.drop_nil, List.take_nil, Nat.le_refl, Nat.reduceMul, List.set_cons_zero, List.set_cons_succ, LV.scalar, List.all_cons, List.all_nil, Nat.lt_add_one, Nat.zero_lt_one, Nat.reduceLT, Nat.lt_irrefl, fillL, List.length_append, foldIntL, kind_beq, pures_int, solids_int, plains_int, unders_int, scalars_int, hc, h1]
    rfl

/-! ### Parts -/
def sumW (V : List (List Int)) (o : List Int) (i k n : Nat) : Int := ((List.range' k n).map fun j : Nat => ws (j : Int) (V.getD i []) o 0).sum
def fairR (V : List (List Int)) (o : List Int) (i k n : Nat) : Bool := (List.range' k n).all fun j : Nat => decide (ws (j : Int) (V.getD i []) o 0 ≤ ws (i : Int) (V.getD i []) o 0)
def fairW (V : List (List Int)) (o : List Int) (k n : Nat) : Bool := (List.range' k n).all fun i : Nat => fairR V o i 0 V.length
def partW (V : List (List Int)) (o : List Int) (k n : Nat) : Bool := (List.range' k n).all fun i : Nat => decide (sumW V o i 0 V.length ≤ (V.length : Int) * ws (i : Int) (V.getD i []) o 0)
theorem sumW_succ (V : List (List Int)) (o : List Int) (i k n : Nat) : sumW V o i k (n + 1) = ws (k : Int) (V.getD i []) o 0 + sumW V o i (k + 1) n := by unfold sumW; rw [List.range'_succ]; simp
theorem fairR_succ (V : List (List Int)) (o : List Int) (i k n : Nat) : fairR V o i k (n + 1) = (decide (ws (k : Int) (V.getD i []) o 0 ≤ ws (i : Int) (V.getD i []) o 0) && fairR V o i (k + 1) n) := by unfold fairR; rw [List.range'_succ]; simp
theorem fairW_succ (V : List (List Int)) (o : List Int) (k n : Nat) : fairW V o k (n + 1) = (fairR V o k 0 V.length && fairW V o (k + 1) n) := by unfold fairW; rw [List.range'_succ]; simp
theorem partW_succ (V : List (List Int)) (o : List Int) (k n : Nat) : partW V o k (n + 1) = (decide (sumW V o k 0 V.length ≤ (V.length : Int) * ws (k : Int) (V.getD k []) o 0) && partW V o (k + 1) n) := by unfold partW; rw [List.range'_succ]; simp
theorem fairW_fairI (V : List (List Int)) (o : List Int) : fairW V o 0 V.length = fairI V o := by
  rw [Bool.eq_iff_iff, fairI_iff]
  unfold fairW fairR PW outer inner
  rw [List.all_eq_true, List.flatMap_eq_nil_iff]
  refine forall_congr' fun i => forall_congr' fun hi => ?_
  rw [List.all_eq_true, List.map_eq_nil_iff, List.filter_eq_nil_iff]
  refine forall_congr' fun j => forall_congr' fun hj => ?_
  show _ ↔ ¬ decide (0 < eW V o i j) = true
  rw [decide_eq_true_eq, decide_eq_true_eq]
  unfold eW
  omega
theorem sum_le (a : Nat → Int) (b : Int) : ∀ (l : List Nat), (∀ x ∈ l, a x ≤ b) → (l.map a).sum ≤ l.length * b
  | [], _ => by simp
  | x :: r, h => by
    have h1 := h x (by simp)
    have h2 := sum_le a b r fun y hy => h y (by simp [hy])
    simp only [List.map_cons, List.sum_cons, List.length_cons]
    rw [Int.natCast_add, Int.add_mul]
    omega
theorem fair_part (V : List (List Int)) (o : List Int) (h : fairW V o 0 V.length = true) : partW V o 0 V.length = true := by
  unfold fairW partW fairR at *
  rw [List.all_eq_true] at h ⊢
  intro i hi
  have := h i hi
  rw [List.all_eq_true] at this
  have hs := sum_le (fun j : Nat => ws (j : Int) (V.getD i []) o 0) (ws (i : Int) (V.getD i []) o 0) (List.range' 0 V.length) fun j hj => by simpa using this j hj
  rw [List.length_range'] at hs
  simpa [sumW] using hs
theorem part_fair (V : List (List Int)) (o : List Int) (h2 : V.length = 2) : partW V o 0 V.length = fairW V o 0 V.length := by
  rw [Bool.eq_iff_iff]
  refine ⟨fun h => ?_, fair_part V o⟩
  unfold fairW partW fairR sumW at *
  rw [h2] at h ⊢
  simp only [show List.range' 0 2 = [0, 1] from rfl, List.all_cons, List.all_nil, Bool.and_true, Bool.and_eq_true, decide_eq_true_eq, List.map_cons, List.map_nil, List.sum_cons, List.sum_nil, show ((2 : Nat) : Int) = 2 from rfl, show ((1 : Nat) : Int) = 1 from rfl, show ((0 : Nat) : Int) = 0 from rfl] at h ⊢
  omega

/-! ### The loops of one division -/
section
variable {rs : List Row} {o : List Int} (D : LOk rs o)
include D
theorem freeI_loop (V0 V2 V3 V4 V5 : LV) (pt : LV) {i : Nat} (hi : i < rs.length) (m : LMem) (d : Nat) : ∀ (j : Nat) (fr : Bool) (sm : Int), j + d = rs.length → 0 ≤ sm → sm + 120 * d ≤ 1000 →
    exF LP law07_ShareFree_1.L0 [(0, V0), (2, V2), (3, V3), (4, V4), (5, V5), (7, VL false true 1 (WR (vals rs) o)), (8, pt), (9, .bool fr), (10, .int .i64 (i : Int)), (11, .int .i64 sm), (17, .int .i64 (rs.length : Int)), (18, .int .i64 (i : Int)), (22, .int .i64 (rs.length : Int)), (23, .int .i64 (j : Int))] m =
      some (.exit 2, [(0, V0), (2, V2), (3, V3), (4, V4), (5, V5), (7, VL false true 1 (WR (vals rs) o)), (8, pt), (9, .bool (fr && fairR (vals rs) o i j d)), (10, .int .i64 (i : Int)), (11, .int .i64 (sm + sumW (vals rs) o i j d)), (17, .int .i64 (rs.length : Int)), (18, .int .i64 (i : Int))], m) := by
  have h4 := D.le4
  induction d with
  | zero =>
    intro j fr sm hj _ _
    rw [law07_ShareFree_1.L0_eq]
    simp only [law07_ShareFree_1.B0, beqT, beqF, exF_seq, exF_region, exF_block, exF_cond, exF_ret, exF_exit, exF_skip, runL, wantL, stepL, evL, evC, LEnv.at, putL, loadFine, loadL, cellsAt, Trk.putNew, Trk.up, Trk.touch, Trk.gives, Trk.calm, Trk.hit, opdsOf, Trk.fresh, LEnv.keep, LEnv.ofFrom, List.map_cons, List.map_nil, nbeq, nble, nblt, ofAV, ofAVs, lenL, bin_add, bin_sub, bin_mul, bin_eql, bin_neq, bin_lss, bin_leq, bin_gtr, bin_geq, natL_nat, natL_zero, natL_one, natL_two, Nat.zero_mul, List.any_cons, List.any_nil, Bool.or_false, Bool.false_or, Bool.true_or, Bool.or_true, Bool.and_true, Bool.true_and, Bool.and_false, Bool.false_and, Bool.not_true, Bool.not_false, Nat.reduceBEq, Nat.reduceEqDiff, decide_true, decide_false, cond_true, cond_false, List.filter_nil, List.filter_cons, Nat.reduceAdd, Nat.reduceLeDiff, reduceCtorEq, List.length_nil, List.length_cons, Nat.mul_one, if_true, if_false, Bool.false_eq_true, eq_self, and_true, true_and, retL, resultsL, resAllL, resOfL, List.append_nil, List.nil_append, List.cons_append, true_or, or_true, false_or, or_false, false_and, and_false, not_true_eq_false, not_false_eq_true, ne_eq, unL, trim_nil, views_pures, LV.pures, LV.pure, freeze, Nat.reduceDiv, Int.reduceEq, Int.reduceLT, Int.reduceLE, Int.natCast_zero, LV.cells, allocL, List.getElem?_cons_zero, List.getElem?_cons_succ, storeL, spliceL, List.take_zero, List.take_succ_cons, List.drop_zero, List.drop_succ_cons, List.drop_nil, List.take_nil, Nat.le_refl, Nat.reduceMul, List.set_cons_zero, List.set_cons_succ, LV.scalar, List.all_cons, List.all_nil, Nat.lt_add_one, Nat.zero_lt_one, Nat.reduceLT, Nat.lt_irrefl, fillL, List.length_append, foldIntL, kind_beq, pures_int, solids_int, plains_int, unders_int, scalars_int, show ¬ ((j : Int) < (rs.length : Int)) by omega, fairR, sumW, List.range'_zero, List.map_nil, List.sum_nil, Int.add_zero]
  | succ d ih =>
    intro j fr sm hj h0 hb
    have hjr : j < rs.length := by omega
    have hws := wrap_succ (show j + 1 < 9223372036854775808 by omega)
    have hWl : (WR (vals rs) o).length = rs.length := by rw [WR_len, vals_length]
    have w1 := wr_row o hi
    have w2 := wr_int o hi hjr
    have w3 := wr_int o hi hi
    have wl := wrow_len (vals rs) o i rs.length
    have b1 := ws_bound (j : Int) rs[i].l o 0 (D.ok i hi) (by omega)
    have hl6 := D.len i hi
    have h6 := D.le6
    have ev := vals_at rs i hi
    rw [sumW_succ, fairR_succ, ev, ← Int.add_assoc, ← Bool.and_assoc]
    have hw : IntKind.i64.wrap (sm + ws (j : Int) rs[i].l o 0) = sm + ws (j : Int) rs[i].l o 0 := wrap_in (by omega)
    have ih1 := fun fr => ih (j + 1) fr (sm + ws (j : Int) rs[i].l o 0) (by omega) (by omega) (by omega)
    generalize ws (j : Int) rs[i].l o 0 = a at *
    generalize ws (i : Int) rs[i].l o 0 = b at *
    rw [law07_ShareFree_1.L0_eq]
    cases fr
    · simp (maxSteps := 1000000) only [law07_ShareFree_1.B0, law07_ShareFree_1.B0.R0, law07_ShareFree_1.B0.R1, beqT, beqF, exF_seq, exF_region, exF_block, exF_cond, exF_ret, exF_exit, exF_skip, runL, wantL, stepL, evL, evC, LEnv.at, putL, loadFine, loadL, cellsAt, Trk.putNew, Trk.up, Trk.touch, Trk.gives, Trk.calm, Trk.hit, opdsOf, Trk.fresh, LEnv.keep, LEnv.ofFrom, List.map_cons, List.map_nil, nbeq, nble, nblt, ofAV, ofAVs, lenL, bin_add, bin_sub, bin_mul, bin_eql, bin_neq, bin_lss, bin_leq, bin_gtr, bin_geq, natL_nat, natL_zero, natL_one, natL_two, Nat.zero_mul, List.any_cons, List.any_nil, Bool.or_false, Bool.false_or, Bool.true_or, Bool.or_true, Bool.and_true, Bool.true_and, Bool.and_false, Bool.false_and, Bool.not_true, Bool.not_false, Nat.reduceBEq, Nat.reduceEqDiff, decide_true, decide_false, cond_true, cond_false, List.filter_nil, List.filter_cons, Nat.reduceAdd, Nat.reduceLeDiff, reduceCtorEq, List.length_nil, List.length_cons, Nat.mul_one, if_true, if_false, Bool.false_eq_true, eq_self, and_true, true_and, retL, resultsL, resAllL, resOfL, List.append_nil, List.nil_append, List.cons_append, true_or, or_true, false_or, or_false, false_and, and_false, not_true_eq_false, not_false_eq_true, ne_eq, unL, trim_nil, views_pures, LV.pures, LV.pure, freeze, Nat.reduceDiv, Int.reduceEq, Int.reduceLT, Int.reduceLE, Int.natCast_zero, LV.cells, allocL, List.getElem?_cons_zero, List.getElem?_cons_succ, storeL, spliceL, List.take_zero, List.take_succ_cons, List.drop_zero, List.drop_succ_cons, List.drop_nil, List.take_nil, Nat.le_refl, Nat.reduceMul, List.set_cons_zero, List.set_cons_succ, LV.scalar, List.all_cons, List.all_nil, Nat.lt_add_one, Nat.zero_lt_one, Nat.reduceLT, Nat.lt_irrefl, fillL, List.length_append, foldIntL, kind_beq, pures_int, solids_int, plains_int, unders_int, scalars_int, show ((j : Int) < (rs.length : Int)) by omega, hWl, hi, hjr, w1, w2, w3, wl, hw, hws, ih1]
    · by_cases c : a ≤ b
      · simp (maxSteps := 1000000) only [law07_ShareFree_1.B0, law07_ShareFree_1.B0.R0, law07_ShareFree_1.B0.R1, beqT, beqF, exF_seq, exF_region, exF_block, exF_cond, exF_ret, exF_exit, exF_skip, runL, wantL, stepL, evL, evC, LEnv.at, putL, loadFine, loadL, cellsAt, Trk.putNew, Trk.up, Trk.touch, Trk.gives, Trk.calm, Trk.hit, opdsOf, Trk.fresh, LEnv.keep, LEnv.ofFrom, List.map_cons, List.map_nil, nbeq, nble, nblt, ofAV, ofAVs, lenL, bin_add, bin_sub, bin_mul, bin_eql, bin_neq, bin_lss, bin_leq, bin_gtr, bin_geq, natL_nat, natL_zero, natL_one, natL_two, Nat.zero_mul, List.any_cons, List.any_nil, Bool.or_false, Bool.false_or, Bool.true_or, Bool.or_true, Bool.and_true, Bool.true_and, Bool.and_false, Bool.false_and, Bool.not_true, Bool.not_false, Nat.reduceBEq, Nat.reduceEqDiff, decide_true, decide_false, cond_true, cond_false, List.filter_nil, List.filter_cons, Nat.reduceAdd, Nat.reduceLeDiff, reduceCtorEq, List.length_nil, List.length_cons, Nat.mul_one, if_true, if_false, Bool.false_eq_true, eq_self, and_true, true_and, retL, resultsL, resAllL, resOfL, List.append_nil, List.nil_append, List.cons_append, true_or, or_true, false_or, or_false, false_and, and_false, not_true_eq_false, not_false_eq_true, ne_eq, unL, trim_nil, views_pures, LV.pures, LV.pure, freeze, Nat.reduceDiv, Int.reduceEq, Int.reduceLT, Int.reduceLE, Int.natCast_zero, LV.cells, allocL, List.getElem?_cons_zero, List.getElem?_cons_succ, storeL, spliceL, List.take_zero, List.take_succ_cons, List.drop_zero, List.drop_succ_cons, List.drop_nil, List.take_nil, Nat.le_refl, Nat.reduceMul, List.set_cons_zero, List.set_cons_succ, LV.scalar, List.all_cons, List.all_nil, Nat.lt_add_one, Nat.zero_lt_one, Nat.reduceLT, Nat.lt_irrefl, fillL, List.length_append, foldIntL, kind_beq, pures_int, solids_int, plains_int, unders_int, scalars_int, show ((j : Int) < (rs.length : Int)) by omega, hWl, hi, hjr, w1, w2, w3, wl, hw, hws, c, ih1]
      · simp (maxSteps := 1000000) only [law07_ShareFree_1.B0, law07_ShareFree_1.B0.R0, law07_ShareFree_1.B0.R1, beqT, beqF, exF_seq, exF_region, exF_block, exF_cond, exF_ret, exF_exit, exF_skip, runL, wantL, stepL, evL, evC, LEnv.at, putL, loadFine, loadL, cellsAt, Trk.putNew, Trk.up, Trk.touch, Trk.gives, Trk.calm, Trk.hit, opdsOf, Trk.fresh, LEnv.keep, LEnv.ofFrom, List.map_cons, List.map_nil, nbeq, nble, nblt, ofAV, ofAVs, lenL, bin_add, bin_sub, bin_mul, bin_eql, bin_neq, bin_lss, bin_leq, bin_gtr, bin_geq, natL_nat, natL_zero, natL_one, natL_two, Nat.zero_mul, List.any_cons, List.any_nil, Bool.or_false, Bool.false_or, Bool.true_or, Bool.or_true, Bool.and_true, Bool.true_and, Bool.and_false, Bool.false_and, Bool.not_true, Bool.not_false, Nat.reduceBEq, Nat.reduceEqDiff, decide_true, decide_false, cond_true, cond_false, List.filter_nil, List.filter_cons, Nat.reduceAdd, Nat.reduceLeDiff, reduceCtorEq, List.length_nil, List.length_cons, Nat.mul_one, if_true, if_false, Bool.false_eq_true, eq_self, and_true, true_and, retL, resultsL, resAllL, resOfL, List.append_nil, List.nil_append, List.cons_append, true_or, or_true, false_or, or_false, false_and, and_false, not_true_eq_false, not_false_eq_true, ne_eq, unL, trim_nil, views_pures, LV.pures, LV.pure, freeze, Nat.reduceDiv, Int.reduceEq, Int.reduceLT, Int.reduceLE, Int.natCast_zero, LV.cells, allocL, List.getElem?_cons_zero, List.getElem?_cons_succ, storeL, spliceL, List.take_zero, List.take_succ_cons, List.drop_zero, List.drop_succ_cons, List.drop_nil, List.take_nil, Nat.le_refl, Nat.reduceMul, List.set_cons_zero, List.set_cons_succ, LV.scalar, List.all_cons, List.all_nil, Nat.lt_add_one, Nat.zero_lt_one, Nat.reduceLT, Nat.lt_irrefl, fillL, List.length_append, foldIntL, kind_beq, pures_int, solids_int, plains_int, unders_int, scalars_int, show ((j : Int) < (rs.length : Int)) by omega, hWl, hi, hjr, w1, w2, w3, wl, hw, hws, c, ih1]
theorem freeO_loop (V0 V3 V4 V5 : LV) (m : LMem) (b2 : Nat) (c2 : List LV) (hm2 : m[b2]? = some ⟨[.int .i64 (rs.length : Int)], true⟩) (d : Nat) : ∀ (i : Nat) (fr pt : Bool), i + d = rs.length →
    exF LP law07_ShareFree_1.L1 [(0, V0), (2, .ptr b2 0 1), (3, V3), (4, V4), (5, V5), (7, VL false true 1 (WR (vals rs) o)), (8, .bool pt), (9, .bool fr), (17, .int .i64 (rs.length : Int)), (18, .int .i64 (i : Int))] m =
      some (.exit 0, [(0, V0), (2, .ptr b2 0 1), (3, V3), (4, V4), (5, V5), (8, .bool (pt && partW (vals rs) o i d)), (9, .bool (fr && fairW (vals rs) o i d))], m) := by
  have h4 := D.le4
  induction d with
  | zero =>
    intro i fr pt hi
    rw [law07_ShareFree_1.L1_eq]
    simp only [law07_ShareFree_1.B1, beqT, beqF, exF_seq, exF_region, exF_block, exF_cond, exF_ret, exF_exit, exF_skip, runL, wantL, stepL, evL, evC, LEnv.at, putL, loadFine, loadL, cellsAt, Trk.putNew, Trk.up, Trk.touch, Trk.gives, Trk.calm, Trk.hit, opdsOf, Trk.fresh, LEnv.keep, LEnv.ofFrom, List.map_cons, List.map_nil, nbeq, nble, nblt, ofAV, ofAVs, lenL, bin_add, bin_sub, bin_mul, bin_eql, bin_neq, bin_lss, bin_leq, bin_gtr, bin_geq, natL_nat, natL_zero, natL_one, natL_two, Nat.zero_mul, List.any_cons, List.any_nil, Bool.or_false, Bool.false_or, Bool.true_or, Bool.or_true, Bool.and_true, Bool.true_and, Bool.and_false, Bool.false_and, Bool.not_true, Bool.not_false, Nat.reduceBEq, Nat.reduceEqDiff, decide_true, decide_false, cond_true, cond_false, List.filter_nil, List.filter_cons, Nat.reduceAdd, Nat.reduceLeDiff, reduceCtorEq, List.length_nil, List.length_cons, Nat.mul_one, if_true, if_false, Bool.false_eq_true, eq_self, and_true, true_and, retL, resultsL, resAllL, resOfL, List.append_nil, List.nil_append, List.cons_append, true_or, or_true, false_or, or_false, false_and, and_false, not_true_eq_false, not_false_eq_true, ne_eq, unL, trim_nil, views_pures, LV.pures, LV.pure, freeze, Nat.reduceDiv, Int.reduceEq, Int.reduceLT, Int.reduceLE, Int.natCast_zero, LV.cells, allocL, List.getElem?_cons_zero, List.getElem?_cons_succ, storeL, spliceL, List.take_zero, List.take_succ_cons, List.drop_zero, List.drop_succ_cons, List.drop_nil, List.take_nil, Nat.le_refl, Nat.reduceMul, List.set_cons_zero, List.set_cons_succ, LV.scalar, List.all_cons, List.all_nil, Nat.lt_add_one, Nat.zero_lt_one, Nat.reduceLT, Nat.lt_irrefl, fillL, List.length_append, foldIntL, kind_beq, pures_int, solids_int, plains_int, unders_int, scalars_int, show ¬ ((i : Int) < (rs.length : Int)) by omega, fairW, partW, List.range'_zero]
  | succ d ih =>
    intro i fr pt hi
    have hir : i < rs.length := by omega
    have hws := wrap_succ (show i + 1 < 9223372036854775808 by omega)
    have hWl : (WR (vals rs) o).length = rs.length := by rw [WR_len, vals_length]
    have w1 := wr_row o hir
    have w3 := wr_int o hir hir
    have wl := wrow_len (vals rs) o i rs.length
    have hin := freeI_loop D V0 (.ptr b2 0 1) V3 V4 V5 (.bool pt) hir m rs.length 0 fr 0 (by omega) (by omega) (by omega)
    rw [Int.natCast_zero, Int.zero_add] at hin
    have ev := vals_at rs i hir
    have hvl := vals_length rs
    have b1 := ws_bound (i : Int) rs[i].l o 0 (D.ok i hir) (by omega)
    have hl6 := D.len i hir
    have h6 := D.le6
    rw [partW_succ, fairW_succ, ev, hvl, ← Bool.and_assoc, ← Bool.and_assoc]
    have ih1 := fun fr pt => ih (i + 1) fr pt (by omega)
    have hmul : IntKind.i64.wrap ((rs.length : Int) * ws (i : Int) rs[i].l o 0) = (rs.length : Int) * ws (i : Int) rs[i].l o 0 := by
      refine wrap_in ?_
      have : (rs.length : Int) * ws (i : Int) rs[i].l o 0 ≤ 4 * 120 := Int.mul_le_mul (by omega) (by omega) (by omega) (by omega)
      have : 0 ≤ (rs.length : Int) * ws (i : Int) rs[i].l o 0 := Int.mul_nonneg (by omega) (by omega)
      omega
    have hmb : ¬ m.length ≤ b2 := by have := (List.getElem?_eq_some_iff.1 hm2).1; omega
    generalize fairR (vals rs) o i 0 rs.length = F at *
    generalize sumW (vals rs) o i 0 rs.length = S at *
    generalize hP : (rs.length : Int) * ws (i : Int) rs[i].l o 0 = P at *
    rw [law07_ShareFree_1.L1_eq]
    cases pt
    · simp (maxSteps := 1000000) only [law07_ShareFree_1.B1, law07_ShareFree_1.B1.R0, beqT, beqF, exF_seq, exF_region, exF_block, exF_cond, exF_ret, exF_exit, exF_skip, runL, wantL, stepL, evL, evC, LEnv.at, putL, loadFine, loadL, cellsAt, Trk.putNew, Trk.up, Trk.touch, Trk.gives, Trk.calm, Trk.hit, opdsOf, Trk.fresh, LEnv.keep, LEnv.ofFrom, List.map_cons, List.map_nil, nbeq, nble, nblt, ofAV, ofAVs, lenL, bin_add, bin_sub, bin_mul, bin_eql, bin_neq, bin_lss, bin_leq, bin_gtr, bin_geq, natL_nat, natL_zero, natL_one, natL_two, Nat.zero_mul, List.any_cons, List.any_nil, Bool.or_false, Bool.false_or, Bool.true_or, Bool.or_true, Bool.and_true, Bool.true_and, Bool.and_false, Bool.false_and, Bool.not_true, Bool.not_false, Nat.reduceBEq, Nat.reduceEqDiff, decide_true, decide_false, cond_true, cond_false, List.filter_nil, List.filter_cons, Nat.reduceAdd, Nat.reduceLeDiff, reduceCtorEq, List.length_nil, List.length_cons, Nat.mul_one, if_true, if_false, Bool.false_eq_true, eq_self, and_true, true_and, retL, resultsL, resAllL, resOfL, List.append_nil, List.nil_append, List.cons_append, true_or, or_true, false_or, or_false, false_and, and_false, not_true_eq_false, not_false_eq_true, ne_eq, unL, trim_nil, views_pures, LV.pures, LV.pure, freeze, Nat.reduceDiv, Int.reduceEq, Int.reduceLT, Int.reduceLE, Int.natCast_zero, LV.cells, allocL, List.getElem?_cons_zero, List.getElem?_cons_succ, storeL, spliceL, List.take_zero, List.take_succ_cons, List.drop_zero, List.drop_succ_cons, List.drop_nil, List.take_nil, Nat.le_refl, Nat.reduceMul, List.set_cons_zero, List.set_cons_succ, LV.scalar, List.all_cons, List.all_nil, Nat.lt_add_one, Nat.zero_lt_one, Nat.reduceLT, Nat.lt_irrefl, fillL, List.length_append, foldIntL, kind_beq, pures_int, solids_int, plains_int, unders_int, scalars_int, show ((i : Int) < (rs.length : Int)) by omega, hWl, hin, hir, w1, w3, wl, hm2, hmb, hmul, hP, hws, ih1]
    · by_cases c : S ≤ P
      · simp (maxSteps := 1000000) only [law07_ShareFree_1.B1, law07_ShareFree_1.B1.R0, beqT, beqF, exF_seq, exF_region, exF_block, exF_cond, exF_ret, exF_exit, exF_skip, runL, wantL, stepL, evL, evC, LEnv.at, putL, loadFine, loadL, cellsAt, Trk.putNew, Trk.up, Trk.touch, Trk.gives, Trk.calm, Trk.hit, opdsOf, Trk.fresh, LEnv.keep, LEnv.ofFrom, List.map_cons, List.map_nil, nbeq, nble, nblt, ofAV, ofAVs, lenL, bin_add, bin_sub, bin_mul, bin_eql, bin_neq, bin_lss, bin_leq, bin_gtr, bin_geq, natL_nat, natL_zero, natL_one, natL_two, Nat.zero_mul, List.any_cons, List.any_nil, Bool.or_false, Bool.false_or, Bool.true_or, Bool.or_true, Bool.and_true, Bool.true_and, Bool.and_false, Bool.false_and, Bool.not_true, Bool.not_false, Nat.reduceBEq, Nat.reduceEqDiff, decide_true, decide_false, cond_true, cond_false, List.filter_nil, List.filter_cons, Nat.reduceAdd, Nat.reduceLeDiff, reduceCtorEq, List.length_nil, List.length_cons, Nat.mul_one, if_true, if_false, Bool.false_eq_true, eq_self, and_true, true_and, retL, resultsL, resAllL, resOfL, List.append_nil, List.nil_append, List.cons_append, true_or, or_true, false_or, or_false, false_and, and_false, not_true_eq_false, not_false_eq_true, ne_eq, unL, trim_nil, views_pures, LV.pures, LV.pure, freeze, Nat.reduceDiv, Int.reduceEq, Int.reduceLT, Int.reduceLE, Int.natCast_zero, LV.cells, allocL, List.getElem?_cons_zero, List.getElem?_cons_succ, storeL, spliceL, List.take_zero, List.take_succ_cons, List.drop_zero, List.drop_succ_cons, List.drop_nil, List.take_nil, Nat.le_refl, Nat.reduceMul, List.set_cons_zero, List.set_cons_succ, LV.scalar, List.all_cons, List.all_nil, Nat.lt_add_one, Nat.zero_lt_one, Nat.reduceLT, Nat.lt_irrefl, fillL, List.length_append, foldIntL, kind_beq, pures_int, solids_int, plains_int, unders_int, scalars_int, show ((i : Int) < (rs.length : Int)) by omega, hWl, hin, hir, w1, w3, wl, hm2, hmb, hmul, hP, hws, c, ge_iff_le, ih1]
      · simp (maxSteps := 1000000) only [law07_ShareFree_1.B1, law07_ShareFree_1.B1.R0, beqT, beqF, exF_seq, exF_region, exF_block, exF_cond, exF_ret, exF_exit, exF_skip, runL, wantL, stepL, evL, evC, LEnv.at, putL, loadFine, loadL, cellsAt, Trk.putNew, Trk.up, Trk.touch, Trk.gives, Trk.calm, Trk.hit, opdsOf, Trk.fresh, LEnv.keep, LEnv.ofFrom, List.map_cons, List.map_nil, nbeq, nble, nblt, ofAV, ofAVs, lenL, bin_add, bin_sub, bin_mul, bin_eql, bin_neq, bin_lss, bin_leq, bin_gtr, bin_geq, natL_nat, natL_zero, natL_one, natL_two, Nat.zero_mul, List.any_cons, List.any_nil, Bool.or_false, Bool.false_or, Bool.true_or, Bool.or_true, Bool.and_true, Bool.true_and, Bool.and_false, Bool.false_and, Bool.not_true, Bool.not_false, Nat.reduceBEq, Nat.reduceEqDiff, decide_true, decide_false, cond_true, cond_false, List.filter_nil, List.filter_cons, Nat.reduceAdd, Nat.reduceLeDiff, reduceCtorEq, List.length_nil, List.length_cons, Nat.mul_one, if_true, if_false, Bool.false_eq_true, eq_self, and_true, true_and, retL, resultsL, resAllL, resOfL, List.append_nil, List.nil_append, List.cons_append, true_or, or_true, false_or, or_false, false_and, and_false, not_true_eq_false, not_false_eq_true, ne_eq, unL, trim_nil, views_pures, LV.pures, LV.pure, freeze, Nat.reduceDiv, Int.reduceEq, Int.reduceLT, Int.reduceLE, Int.natCast_zero, LV.cells, allocL, List.getElem?_cons_zero, List.getElem?_cons_succ, storeL, spliceL, List.take_zero, List.take_succ_cons, List.drop_zero, List.drop_succ_cons, List.drop_nil, List.take_nil, Nat.le_refl, Nat.reduceMul, List.set_cons_zero, List.set_cons_succ, LV.scalar, List.all_cons, List.all_nil, Nat.lt_add_one, Nat.zero_lt_one, Nat.reduceLT, Nat.lt_irrefl, fillL, List.length_append, foldIntL, kind_beq, pures_int, solids_int, plains_int, unders_int, scalars_int, show ((i : Int) < (rs.length : Int)) by omega, hWl, hin, hir, w1, w3, wl, hm2, hmb, hmul, hP, hws, c, ge_iff_le, ih1]
end
end Go.Am.Share


