import Derived.Test.YtcckhkcchpfdoaaShareC25
/-
  What functions of chapter 07 compute, 27: the reference's fair divisions.
-/
set_option linter.unusedVariables false
set_option linter.unusedSimpArgs false
set_option maxRecDepth 10000
namespace Go.Am.Share
theorem fstI_neg (P : Nat → Bool) (n k : Nat) : fstI P n k = -1 ↔ ∀ i, k ≤ i → i < k + n → P i = false := by
  rcases fstI_cases P n k with ⟨a, b⟩ | ⟨i, a, b, c, d⟩
  · exact ⟨fun _ => b, fun _ => a⟩
  · constructor
    · intro h; omega
    · intro h; rw [h i b c] at d; cases d
theorem fairI_iff (V : List (List Int)) (o : List Int) : fairI V o = true ↔ PW V o = [] := by
  unfold fairI PW outer
  rw [decide_eq_true_eq, fstI_neg, List.flatMap_eq_nil_iff]
  constructor
  · intro h i hi
    unfold inner
    rw [List.map_eq_nil_iff, List.filter_eq_nil_iff]
    intro j hj
    simp only [List.mem_range'_1] at hi hj
    have h1 := h j (by omega) (by omega)
    simp only [ne_eq, decide_not, Bool.not_eq_false', decide_eq_true_eq] at h1
    have h2 := (fstI_neg _ _ _).1 h1 i (by omega) (by omega)
    simpa using h2
  · intro h j hj0 hj1
    simp only [ne_eq, decide_not, Bool.not_eq_false', decide_eq_true_eq]
    refine (fstI_neg _ _ _).2 fun i hi0 hi1 => ?_
    have h1 := h i (by simp only [List.mem_range'_1]; omega)
    unfold inner at h1
    rw [List.map_eq_nil_iff, List.filter_eq_nil_iff] at h1
    have h2 := h1 j (by simp only [List.mem_range'_1]; omega)
    simpa using h2
theorem divE_ok {rs : List Row} {L : Nat} (h : chkV (vals rs) = 0) (hL : L = ((vals rs).getD 0 []).length) {q : List Int} (hq : q.length = L ∧ ∀ x ∈ q, 0 ≤ x ∧ x < (rs.length : Int)) : divE (vals rs) q = 0 := by
  unfold divE
  rw [if_neg (by simpa using h), if_neg (by omega), if_neg, ]
  simp only [List.any_eq_true, not_exists, not_and]
  intro x hx
  have := hq.2 x hx
  simp [inB, vals_length]; omega
theorem fairV_two {rs : List Row} {q : List Int} (h : divE (vals rs) q = 0) : decide (fairV (vals rs) q = 2) = fairI (vals rs) q := by
  have D := dok_of h
  rw [Bool.eq_iff_iff, decide_eq_true_eq, fairI_iff]
  unfold fairV
  rw [if_neg (by simpa using h)]
  constructor
  · intro h2
    split at h2
    · omega
    · split at h2
      · omega
      · rename_i c; simpa using c
  · intro h2
    rw [if_neg (by simpa using pw_nil D h2), if_neg (by simpa using h2)]
/-! ### Lists of divisions that are handed on -/
abbrev dvs (t : Nat) (R : List (List Int)) : List LV := R.map (dv t)
theorem pures_dv (t : Nat) (R : List (List Int)) : LV.pures (dvs t R) = true := by
  induction R with
  | nil => rfl
  | cons a r ih => simp only [dvs, List.map_cons, LV.pures, LV.pure, pures_int, Bool.true_and]; exact ih
theorem rfair_loop (nl ex : Bool) (sz : Nat) (rs : List Row) (hl : rs.length < 1000000) (hr : ∀ r ∈ rs, r.l.length < 1000000) (hc : chkV (vals rs) = 0) (t : Nat) (ht : t = ((vals rs).getD 0 []).length) (P : List (List Int)) (hP : P.length < 10000) (hp : ∀ q ∈ P, q.length = t ∧ ∀ x ∈ q, 0 ≤ x ∧ x < (rs.length : Int)) (n : Nat) : ∀ (k : Nat) (R : List (List Int)), k + n = P.length → R.length + n < 100000 →
    exF LP ref07_fair.L0 [(0, VL nl ex sz rs), (3, GVc 0 1 R.length), (4, DL t P), (5, .int .i64 (k : Int))] (GMc R.length (dvs t R)) =
      some (.exit 0, [(3, GVc 0 1 (R ++ (P.drop k).filter (fairI (vals rs))).length)], GMc (R ++ (P.drop k).filter (fairI (vals rs))).length (dvs t (R ++ (P.drop k).filter (fairI (vals rs))))) := by
  have h6 := (chkV_ok hc).2.2.1
  induction n with
  | zero =>
    intro k R hk hR
    rw [ref07_fair.L0_eq, List.drop_eq_nil_of_le (show P.length ≤ k by omega), List.filter_nil, List.append_nil]
    simp only [ref07_fair.B0, beqT, beqF, exF_seq, exF_region, exF_block, exF_cond, exF_ret, exF_exit, exF_skip, runL, wantL, stepL, evL, LEnv.at, putL, loadFine, loadL, cellsAt, Trk.putNew, Trk.up, Trk.touch, Trk.gives, Trk.calm, Trk.hit, opdsOf, Trk.fresh, LEnv.keep, LEnv.ofFrom, List.map_cons, List.map_nil, nbeq, nble, nblt, ofAV, ofAVs, lenL, bin_add, bin_sub, bin_mul, bin_eql, bin_neq, bin_lss, bin_leq, bin_gtr, bin_geq, natL_nat, natL_zero, natL_one, natL_two, Nat.zero_mul, List.any_cons, List.any_nil, Bool.or_false, Bool.false_or, Bool.true_or, Bool.or_true, Bool.and_true, Bool.true_and, Bool.and_false, Bool.false_and, Bool.not_true, Bool.not_false, Nat.reduceBEq, Nat.reduceEqDiff, decide_true, decide_false, cond_true, cond_false, List.filter_nil, List.filter_cons, Nat.reduceAdd, Nat.reduceLeDiff, reduceCtorEq, List.length_nil, List.length_cons, Nat.mul_one, if_true, if_false, Bool.false_eq_true, eq_self, and_true, true_and, retL, resultsL, resAllL, resOfL, List.append_nil, List.nil_append, List.cons_append, true_or, or_true, false_or, or_false, false_and, and_false, not_true_eq_false, not_false_eq_true, ne_eq, unL, trim_nil, views_pures, LV.pures, LV.pure, freeze, Nat.reduceDiv, Int.reduceEq, Int.reduceLT, Int.reduceLE, Int.natCast_zero, LV.cells, allocL, List.getElem?_cons_zero, List.getElem?_cons_succ, storeL, spliceL, List.take_zero, List.take_succ_cons, List.drop_zero, List.drop_succ_cons, List.drop_nil, List.take_nil, Nat.le_refl, Nat.reduceMul, List.set_cons_zero, List.set_cons_succ, LV.scalar, List.all_cons, List.all_nil, Nat.lt_add_one, Nat.zero_lt_one, Nat.lt_irrefl, fillL, List.length_append, foldIntL, kind_beq, pures_int, solids_int, plains_int, unders_int, scalars_int, show ¬ ((k : Int) < (P.length : Int)) by omega]
  | succ n ih =>
    intro k R hk hR
    have h2 : k < P.length := by omega
    have hq := hp _ (List.getElem_mem h2)
    have hd := divE_ok hc ht hq
    have hf2 := fairV_two hd
    have I : In rs false (cond (decide (t = 0)) 0 1) P[k] := ⟨hl, hr, by omega, by
      by_cases h0 : t = 0
      · exact .inl (List.length_eq_zero_iff.1 (by omega))
      · exact .inr (by simp [h0]), by simp⟩
    have hf := rfair_c nl ex false (decide (t = 0)) sz (cond (decide (t = 0)) 0 1) rs P[k] I
    rw [ref07_fair.L0_eq, List.drop_eq_getElem_cons h2]
    have hws := wrap_succ (show k + 1 < 9223372036854775808 by omega)
    cases he : fairI (vals rs) P[k]
    · rw [he] at hf2
      have hf3 : ¬ (fairV (vals rs) P[k] = 2) := by simpa using hf2
      have ih := ih (k + 1) R (by omega) (by omega)
      rw [List.filter_cons_of_neg (by simp [he])]
      simp only [ref07_fair.B0, beqT, beqF, exF_seq, exF_region, exF_block, exF_cond, exF_ret, exF_exit, exF_skip, runL, wantL, stepL, evL, LEnv.at, putL, loadFine, loadL, cellsAt, Trk.putNew, Trk.up, Trk.touch, Trk.gives, Trk.calm, Trk.hit, opdsOf, Trk.fresh, LEnv.keep, LEnv.ofFrom, List.map_cons, List.map_nil, nbeq, nble, nblt, ofAV, ofAVs, lenL, bin_add, bin_sub, bin_mul, bin_eql, bin_neq, bin_lss, bin_leq, bin_gtr, bin_geq, natL_nat, natL_zero, natL_one, natL_two, Nat.zero_mul, List.any_cons, List.any_nil, Bool.or_false, Bool.false_or, Bool.true_or, Bool.or_true, Bool.and_true, Bool.true_and, Bool.and_false, Bool.false_and, Bool.not_true, Bool.not_false, Nat.reduceBEq, Nat.reduceEqDiff, decide_true, decide_false, cond_true, cond_false, List.filter_nil, List.filter_cons, Nat.reduceAdd, Nat.reduceLeDiff, reduceCtorEq, List.length_nil, List.length_cons, Nat.mul_one, if_true, if_false, Bool.false_eq_true, eq_self, and_true, true_and, retL, resultsL, resAllL, resOfL, List.append_nil, List.nil_append, List.cons_append, true_or, or_true, false_or, or_false, false_and, and_false, not_true_eq_false, not_false_eq_true, ne_eq, unL, trim_nil, views_pures, LV.pures, LV.pure, freeze, Nat.reduceDiv, Int.reduceEq, Int.reduceLT, Int.reduceLE, Int.natCast_zero, LV.cells, allocL, List.getElem?_cons_zero, List.getElem?_cons_succ, storeL, spliceL, List.take_zero, List.take_succ_cons, List.drop_zero, List.drop_succ_cons, List.drop_nil, List.take_nil, Nat.le_refl, Nat.reduceMul, List.set_cons_zero, List.set_cons_succ, LV.scalar, List.all_cons, List.all_nil, Nat.lt_add_one, Nat.zero_lt_one, Nat.lt_irrefl, fillL, foldIntL, kind_beq, pures_int, solids_int, plains_int, unders_int, scalars_int, show ((k : Int) < (P.length : Int)) by omega, h2, dv_at _ _ _ h2, hf, hf3, hws, ih]
    · rw [he] at hf2
      have hf3 : fairV (vals rs) P[k] = 2 := by simpa using hf2
      have ih := ih (k + 1) (R ++ [P[k]]) (by omega) (by simp; omega)
      rw [List.filter_cons_of_pos he]
      have e1 : R ++ [P[k]] ++ (P.drop (k + 1)).filter (fairI (vals rs)) = R ++ P[k] :: (P.drop (k + 1)).filter (fairI (vals rs)) := by simp
      rw [e1] at ih
      have a1 := append_c [] [] 1 24 R.length (dvs t R) [dv t P[k]] true (by simp) rfl (by simp [LV.scalar]) (by omega) (by omega) (.inr rfl)
      have e2 : dvs t R ++ [dv t P[k]] = dvs t (R ++ [P[k]]) := by simp [dvs]
      have e3 : (R ++ [P[k]]).length = R.length + 1 := by simp
      rw [List.nil_append, List.append_nil, List.nil_append, List.append_nil, List.length_nil, e2] at a1
      rw [e3] at ih
      have hv : ∀ m, views m [dv t P[k]] = some ([dv t P[k]], []) := fun m => views_pures m _ (by simp [LV.pures, LV.pure])
      simp only [ref07_fair.B0, beqT, beqF, exF_seq, exF_region, exF_block, exF_cond, exF_ret, exF_exit, exF_skip, runL, wantL, stepL, evL, LEnv.at, putL, loadFine, loadL, cellsAt, Trk.putNew, Trk.up, Trk.touch, Trk.gives, Trk.calm, Trk.hit, opdsOf, Trk.fresh, LEnv.keep, LEnv.ofFrom, List.map_cons, List.map_nil, nbeq, nble, nblt, ofAV, ofAVs, lenL, bin_add, bin_sub, bin_mul, bin_eql, bin_neq, bin_lss, bin_leq, bin_gtr, bin_geq, natL_nat, natL_zero, natL_one, natL_two, Nat.zero_mul, List.any_cons, List.any_nil, Bool.or_false, Bool.false_or, Bool.true_or, Bool.or_true, Bool.and_true, Bool.true_and, Bool.and_false, Bool.false_and, Bool.not_true, Bool.not_false, Nat.reduceBEq, Nat.reduceEqDiff, decide_true, decide_false, cond_true, cond_false, List.filter_nil, List.filter_cons, Nat.reduceAdd, Nat.reduceLeDiff, reduceCtorEq, List.length_nil, List.length_cons, Nat.mul_one, if_true, if_false, Bool.false_eq_true, eq_self, and_true, true_and, retL, resultsL, resAllL, resOfL, List.append_nil, List.nil_append, List.cons_append, true_or, or_true, false_or, or_false, false_and, and_false, not_true_eq_false, not_false_eq_true, ne_eq, unL, trim_nil, views_pures, LV.pures, LV.pure, freeze, Nat.reduceDiv, Int.reduceEq, Int.reduceLT, Int.reduceLE, Int.natCast_zero, LV.cells, allocL, List.getElem?_cons_zero, List.getElem?_cons_succ, storeL, spliceL, List.take_zero, List.take_succ_cons, List.drop_zero, List.drop_succ_cons, List.drop_nil, List.take_nil, Nat.le_refl, Nat.reduceMul, List.set_cons_zero, List.set_cons_succ, LV.scalar, List.all_cons, List.all_nil, Nat.lt_add_one, Nat.zero_lt_one, Nat.lt_irrefl, fillL, foldIntL, kind_beq, pures_int, solids_int, plains_int, unders_int, scalars_int, show ((k : Int) < (P.length : Int)) by omega, h2, dv_at _ _ _ h2, hf, hf3, hws, hv, a1, ih]
theorem rfairs_c (nl ex : Bool) (sz : Nat) (rs : List Row) (hl : rs.length < 1000000) (hr : ∀ r ∈ rs, r.l.length < 1000000) (hc : chkV (vals rs) = 0) (m : LMem) :
    clF LP n_ref07_fair [VL nl ex sz rs] m = some (.P, RLc 1 ((allD rs.length ((vals rs).getD 0 []).length).filter (fairI (vals rs))).length (dvs ((vals rs).getD 0 []).length ((allD rs.length ((vals rs).getD 0 []).length).filter (fairI (vals rs)))), m) := by
  obtain ⟨k1, k2, k3, k4⟩ := chkV_ok hc
  rw [vals_length] at k1 k2
  have h0 := vals0 rs k1
  rw [h0] at k3 ⊢
  have hall := all_c rs.length k2 k1 rs[0].l.length k3
  have hlen := allD_length rs.length rs[0].l.length
  have hb := pow_bound k2 k3
  have hmem := allD_mem rs.length rs[0].l.length
  have hloop := rfair_loop nl ex sz rs hl hr hc rs[0].l.length (by rw [h0]) (allD rs.length rs[0].l.length) (by omega) hmem (allD rs.length rs[0].l.length).length 0 [] (by omega) (by simp; omega)
  rw [List.drop_zero, List.nil_append] at hloop
  generalize (allD rs.length rs[0].l.length).filter (fairI (vals rs)) = R at *
  have hloop : exF LP ref07_fair.L0 [(0, VL nl ex sz rs), (3, LNIL), (4, DL rs[0].l.length (allD rs.length rs[0].l.length)), (5, .int .i64 0)] [] = some (.exit 0, [(3, GVc 0 1 R.length)], GMc R.length (dvs rs[0].l.length R)) := hloop
  have hv := view_c 37 [] [] 1 R.length (dvs rs[0].l.length R) (by simp) (pures_dv _ R) (by omega)
  rw [List.nil_append, List.append_nil, List.length_nil] at hv
  refine call_Pv lp_ref07_fair rfl (by simp [LV.pures, LV.pure]) ?_ hv m
  simp only [ref07_fair, ref07_fair.B, beqT, beqF, exF_seq, exF_region, exF_block, exF_cond, exF_ret, exF_exit, exF_skip, runL, wantL, stepL, evL, LEnv.at, putL, loadFine, loadL, cellsAt, Trk.putNew, Trk.up, Trk.touch, Trk.gives, Trk.calm, Trk.hit, opdsOf, Trk.fresh, LEnv.keep, LEnv.ofFrom, List.map_cons, List.map_nil, nbeq, nble, nblt, ofAV, ofAVs, lenL, bin_add, bin_sub, bin_mul, bin_eql, bin_neq, bin_lss, bin_leq, bin_gtr, bin_geq, natL_nat, natL_zero, natL_one, natL_two, Nat.zero_mul, List.any_cons, List.any_nil, Bool.or_false, Bool.false_or, Bool.true_or, Bool.or_true, Bool.and_true, Bool.true_and, Bool.and_false, Bool.false_and, Bool.not_true, Bool.not_false, Nat.reduceBEq, Nat.reduceEqDiff, decide_true, decide_false, cond_true, cond_false, List.filter_nil, List.filter_cons, Nat.reduceAdd, Nat.reduceLeDiff, reduceCtorEq, List.length_nil, List.length_cons, Nat.mul_one, if_true, if_false, Bool.false_eq_true, eq_self, and_true, true_and, retL, resultsL, resAllL, resOfL, List.append_nil, List.nil_append, List.cons_append, true_or, or_true, false_or, or_false, false_and, and_false, not_true_eq_false, not_false_eq_true, ne_eq, unL, trim_nil, views_pures, LV.pures, LV.pure, freeze, Nat.reduceDiv, Int.reduceEq, Int.reduceLT, Int.reduceLE, Int.natCast_zero, LV.cells, allocL, List.getElem?_cons_zero, List.getElem?_cons_succ, storeL, spliceL, List.take_zero, List.take_succ_cons, List.drop_zero, List.drop_succ_cons, List.drop_nil, List.take_nil, Nat.le_refl, Nat.reduceMul, List.set_cons_zero, List.set_cons_succ, LV.scalar, List.all_cons, List.all_nil, Nat.lt_add_one, Nat.zero_lt_one, Nat.lt_irrefl, fillL, List.length_append, foldIntL, kind_beq, pures_int, solids_int, plains_int, unders_int, scalars_int, k1, row_at _ _ k1, hall, hloop]
end Go.Am.Share

/-
  What functions of chapter 07 compute, 28: fair divisions are counted and found by the reference; all divisions in order.
-/
set_option linter.unusedVariables false
set_option linter.unusedSimpArgs false
set_option maxRecDepth 10000
namespace Go.Am.Share
theorem allS_map (N : Nat) (x : Int) (P : List (List Int)) : allS N (P.map fun q => x :: q) = (allS N P).map fun q => x :: q := by
  unfold allS
  rw [List.flatMap_map, List.map_flatMap]
  simp only [List.map_map]
  rfl
theorem allS_flat (N : Nat) (f : Nat → List (List Int)) : ∀ (l : List Nat), allS N (l.flatMap f) = l.flatMap fun j => allS N (f j)
  | [] => rfl
  | a :: r => by
    have := allS_flat N f r
    unfold allS at this ⊢
    rw [List.flatMap_cons, List.flatMap_cons, List.flatMap_append, this]
theorem allR_S (N : Nat) : ∀ (n : Nat), allR N (n + 1) = allS N (allR N n)
  | 0 => by
    simp only [allR, allS, List.flatMap_cons, List.flatMap_nil, List.append_nil, List.map_cons, List.map_nil, List.nil_append]
    induction List.range' 0 N with
    | nil => rfl
    | cons a r ih => rw [List.flatMap_cons, ih]; rfl
  | n + 1 => by
    rw [allR, allR_S N n]
    simp only [← allS_map]
    rw [← allS_flat]
    congr 1
    rw [← allR_S N n, allR]
theorem allR_D (N : Nat) : ∀ (n : Nat), allR N n = allD N n
  | 0 => rfl
  | n + 1 => by rw [allR_S, allD, allR_D N n]
theorem count_run (V : List (List Int)) : ∀ (l : List (List Int)) (s : Int), 0 ≤ s → s + l.length < 1000000 → (runV (visC V) s l).1 = s + (l.filter (fairI V)).length
  | [], s, _, _ => by simp [runV]
  | x :: xs, s, h, h2 => by
    simp only [List.length_cons] at h2
    rw [runV, if_pos (show (visC V s x).2 = true from rfl)]
    cases c : fairI V x
    · rw [List.filter_cons_of_neg (by simp [c])]
      have : (visC V s x).1 = s := by simp [visC, c]
      rw [this, count_run V xs s h (by omega)]
    · rw [List.filter_cons_of_pos c]
      have : (visC V s x).1 = s + 1 := by simp only [visC, c, if_true]; exact wrap_in (by omega)
      rw [this, count_run V xs (s + 1) (by omega) (by omega)]
      simp only [List.length_cons]; omega
def fairs (V : List (List Int)) : List (List Int) := (allD V.length (V.getD 0 []).length).filter (fairI V)
theorem countV_eq (V : List (List Int)) : countV V = if chkV V = 0 then ((fairs V).length : Int) else 0 := by
  unfold countV
  by_cases h : chkV V = 0
  · rw [if_pos h, if_pos h]
    obtain ⟨k1, k2, k3, k4⟩ := chkV_ok h
    have hb := pow_bound k2 k3
    have hl := allD_length V.length (V.getD 0 []).length
    rw [count_run V _ 0 (by omega) (by rw [allR_D]; omega), allR_D, Int.zero_add]
    rfl
  · rw [if_neg h, if_neg h]
theorem rcount_c (nl ex : Bool) (sz : Nat) (rs : List Row) (hl : rs.length < 1000000) (hr : ∀ r ∈ rs, r.l.length < 1000000) (m : LMem) : clF LP n_ref07_Count [VL nl ex sz rs] m = some (.P, .tup [.int .i64 (countV (vals rs)), .int .i64 (chkV (vals rs))], m) := by
  have hc := fun m => rcheck_c nl ex sz rs hl hr m
  rw [countV_eq]
  by_cases h1 : chkV (vals rs) = 0
  · rw [if_pos h1]
    have hf := rfairs_c nl ex sz rs hl hr h1
    unfold fairs
    rw [vals_length]
    refine call_P lp_ref07_Count rfl (by simp [LV.pures, LV.pure]) (m1 := []) ?_ rfl m
    generalize (allD rs.length ((vals rs).getD 0 []).length).filter (fairI (vals rs)) = R at *
    simp only [ref07_Count, ref07_Count.B, beqT, beqF, exF_seq, exF_region, exF_block, exF_cond, exF_ret, exF_exit, exF_skip, runL, wantL, stepL, evL, LEnv.at, putL, loadFine, loadL, cellsAt, Trk.putNew, Trk.up, Trk.touch, Trk.gives, Trk.calm, Trk.hit, opdsOf, Trk.fresh, LEnv.keep, LEnv.ofFrom, List.map_cons, List.map_nil, nbeq, nble, nblt, ofAV, ofAVs, lenL, bin_add, bin_sub, bin_mul, bin_eql, bin_neq, bin_lss, bin_leq, bin_gtr, bin_geq, natL_nat, natL_zero, natL_one, natL_two, Nat.zero_mul, List.any_cons, List.any_nil, Bool.or_false, Bool.false_or, Bool.true_or, Bool.or_true, Bool.and_true, Bool.true_and, Bool.and_false, Bool.false_and, Bool.not_true, Bool.not_false, Nat.reduceBEq, Nat.reduceEqDiff, decide_true, decide_false, cond_true, cond_false, List.filter_nil, List.filter_cons, Nat.reduceAdd, Nat.reduceLeDiff, reduceCtorEq, List.length_nil, List.length_cons, Nat.mul_one, if_true, if_false, Bool.false_eq_true, eq_self, and_true, true_and, retL, resultsL, resAllL, resOfL, List.append_nil, List.nil_append, List.cons_append, true_or, or_true, false_or, or_false, false_and, and_false, not_true_eq_false, not_false_eq_true, ne_eq, unL, trim_nil, views_pures, LV.pures, LV.pure, freeze, Nat.reduceDiv, Int.reduceEq, Int.reduceLT, Int.reduceLE, Int.natCast_zero, LV.cells, allocL, List.getElem?_cons_zero, List.getElem?_cons_succ, storeL, spliceL, List.take_zero, List.take_succ_cons, List.drop_zero, List.drop_succ_cons, List.drop_nil, List.take_nil, Nat.le_refl, Nat.reduceMul, List.set_cons_zero, List.set_cons_succ, LV.scalar, List.all_cons, List.all_nil, Nat.lt_add_one, Nat.zero_lt_one, Nat.lt_irrefl, fillL, List.length_append, foldIntL, kind_beq, pures_int, solids_int, plains_int, unders_int, scalars_int, hc, h1, hf]
  · rw [if_neg h1]
    refine call_P lp_ref07_Count rfl (by simp [LV.pures, LV.pure]) (m1 := []) ?_ rfl m
    simp only [ref07_Count, ref07_Count.B, beqT, beqF, exF_seq, exF_region, exF_block, exF_cond, exF_ret, exF_exit, exF_skip, runL, wantL, stepL, evL, LEnv.at, putL, loadFine, loadL, cellsAt, Trk.putNew, Trk.up, Trk.touch, Trk.gives, Trk.calm, Trk.hit, opdsOf, Trk.fresh, LEnv.keep, LEnv.ofFrom, List.map_cons, List.map_nil, nbeq, nble, nblt, ofAV, ofAVs, lenL, bin_add, bin_sub, bin_mul, bin_eql, bin_neq, bin_lss, bin_leq, bin_gtr, bin_geq, natL_nat, natL_zero, natL_one, natL_two, Nat.zero_mul, List.any_cons, List.any_nil, Bool.or_false, Bool.false_or, Bool.true_or, Bool.or_true, Bool.and_true, Bool.true_and, Bool.and_false, Bool.false_and, Bool.not_true, Bool.not_false, Nat.reduceBEq, Nat.reduceEqDiff, decide_true, decide_false, cond_true, cond_false, List.filter_nil, List.filter_cons, Nat.reduceAdd, Nat.reduceLeDiff, reduceCtorEq, List.length_nil, List.length_cons, Nat.mul_one, if_true, if_false, Bool.false_eq_true, eq_self, and_true, true_and, retL, resultsL, resAllL, resOfL, List.append_nil, List.nil_append, List.cons_append, true_or, or_true, false_or, or_false, false_and, and_false, not_true_eq_false, not_false_eq_true, ne_eq, unL, trim_nil, views_pures, LV.pures, LV.pure, freeze, Nat.reduceDiv, Int.reduceEq, Int.reduceLT, Int.reduceLE, Int.natCast_zero, LV.cells, allocL, List.getElem?_cons_zero, List.getElem?_cons_succ, storeL, spliceL, List.take_zero, List.take_succ_cons, List.drop_zero, List.drop_succ_cons, List.drop_nil, List.take_nil, Nat.le_refl, Nat.reduceMul, List.set_cons_zero, List.set_cons_succ, LV.scalar, List.all_cons, List.all_nil, Nat.lt_add_one, Nat.zero_lt_one, Nat.lt_irrefl, fillL, List.length_append, foldIntL, kind_beq, pures_int, solids_int, plains_int, unders_int, scalars_int, hc, h1]
def freeE (V : List (List Int)) : Int := if chkV V ≠ 0 then chkV V else if fairs V = [] then 12 else 0
def freeV (V : List (List Int)) : List Int := if chkV V = 0 then (fairs V).headD [] else []
theorem rfree_c (nl ex : Bool) (sz : Nat) (rs : List Row) (hl : rs.length < 1000000) (hr : ∀ r ∈ rs, r.l.length < 1000000) : ∃ nl' ex' sz', ∀ m, clF LP n_ref07_Free [VL nl ex sz rs] m = some (.P, .tup [IL nl' ex' sz' (freeV (vals rs)), .int .i64 (freeE (vals rs))], m) := by
  have hc := fun m => rcheck_c nl ex sz rs hl hr m
  unfold freeE freeV
  by_cases h1 : chkV (vals rs) = 0
  · have hf := rfairs_c nl ex sz rs hl hr h1
    rw [if_pos h1, if_neg (by simpa using h1)]
    unfold fairs
    rw [vals_length]
    generalize (allD rs.length ((vals rs).getD 0 []).length).filter (fairI (vals rs)) = R at *
    generalize ((vals rs).getD 0 []).length = t at *
    cases R with
    | nil =>
      refine ⟨true, true, 0, fun m => call_P lp_ref07_Free rfl (by simp [LV.pures, LV.pure]) (m1 := []) ?_ (by simp [LV.pures, LV.pure]) m⟩
      simp only [ref07_Free, ref07_Free.B, beqT, beqF, exF_seq, exF_region, exF_block, exF_cond, exF_ret, exF_exit, exF_skip, runL, wantL, stepL, evL, LEnv.at, putL, loadFine, loadL, cellsAt, Trk.putNew, Trk.up, Trk.touch, Trk.gives, Trk.calm, Trk.hit, opdsOf, Trk.fresh, LEnv.keep, LEnv.ofFrom, List.map_cons, List.map_nil, nbeq, nble, nblt, ofAV, ofAVs, lenL, bin_add, bin_sub, bin_mul, bin_eql, bin_neq, bin_lss, bin_leq, bin_gtr, bin_geq, natL_nat, natL_zero, natL_one, natL_two, Nat.zero_mul, List.any_cons, List.any_nil, Bool.or_false, Bool.false_or, Bool.true_or, Bool.or_true, Bool.and_true, Bool.true_and, Bool.and_false, Bool.false_and, Bool.not_true, Bool.not_false, Nat.reduceBEq, Nat.reduceEqDiff, decide_true, decide_false, cond_true, cond_false, List.filter_nil, List.filter_cons, Nat.reduceAdd, Nat.reduceLeDiff, reduceCtorEq, List.length_nil, List.length_cons, Nat.mul_one, if_true, if_false, Bool.false_eq_true, eq_self, and_true, true_and, retL, resultsL, resAllL, resOfL, List.append_nil, List.nil_append, List.cons_append, true_or, or_true, false_or, or_false, false_and, and_false, not_true_eq_false, not_false_eq_true, ne_eq, unL, trim_nil, views_pures, LV.pures, LV.pure, freeze, Nat.reduceDiv, Int.reduceEq, Int.reduceLT, Int.reduceLE, Int.natCast_zero, LV.cells, allocL, List.getElem?_cons_zero, List.getElem?_cons_succ, storeL, spliceL, List.take_zero, List.take_succ_cons, List.drop_zero, List.drop_succ_cons, List.drop_nil, List.take_nil, Nat.le_refl, Nat.reduceMul, List.set_cons_zero, List.set_cons_succ, LV.scalar, List.all_cons, List.all_nil, Nat.lt_add_one, Nat.zero_lt_one, Nat.lt_irrefl, fillL, List.length_append, foldIntL, kind_beq, pures_int, solids_int, plains_int, unders_int, scalars_int, hc, h1, hf]
      rfl
    | cons q r =>
      refine ⟨false, decide (t = 0), cond (decide (t = 0)) 0 1, fun m => call_P lp_ref07_Free rfl (by simp [LV.pures, LV.pure]) (m1 := []) ?_ (by simp [LV.pures, LV.pure]) m⟩
      have hn : ¬ (((r.length + 1 : Nat) : Int) = 0) := by omega
      simp only [dvs, List.map_cons, List.length_cons] at hf
      simp only [ref07_Free, ref07_Free.B, beqT, beqF, exF_seq, exF_region, exF_block, exF_cond, exF_ret, exF_exit, exF_skip, runL, wantL, stepL, evL, LEnv.at, putL, loadFine, loadL, cellsAt, Trk.putNew, Trk.up, Trk.touch, Trk.gives, Trk.calm, Trk.hit, opdsOf, Trk.fresh, LEnv.keep, LEnv.ofFrom, List.map_cons, List.map_nil, nbeq, nble, nblt, ofAV, ofAVs, lenL, bin_add, bin_sub, bin_mul, bin_eql, bin_neq, bin_lss, bin_leq, bin_gtr, bin_geq, natL_nat, natL_zero, natL_one, natL_two, Nat.zero_mul, List.any_cons, List.any_nil, Bool.or_false, Bool.false_or, Bool.true_or, Bool.or_true, Bool.and_true, Bool.true_and, Bool.and_false, Bool.false_and, Bool.not_true, Bool.not_false, Nat.reduceBEq, Nat.reduceEqDiff, decide_true, decide_false, cond_true, cond_false, List.filter_nil, List.filter_cons, Nat.reduceAdd, Nat.reduceLeDiff, reduceCtorEq, List.length_nil, List.length_cons, Nat.mul_one, if_true, if_false, Bool.false_eq_true, eq_self, and_true, true_and, retL, resultsL, resAllL, resOfL, List.append_nil, List.nil_append, List.cons_append, true_or, or_true, false_or, or_false, false_and, and_false, not_true_eq_false, not_false_eq_true, ne_eq, unL, trim_nil, views_pures, LV.pures, LV.pure, freeze, Nat.reduceDiv, Int.reduceEq, Int.reduceLT, Int.reduceLE, Int.natCast_zero, LV.cells, allocL, List.getElem?_cons_zero, List.getElem?_cons_succ, storeL, spliceL, List.take_zero, List.take_succ_cons, List.drop_zero, List.drop_succ_cons, List.drop_nil, List.take_nil, Nat.le_refl, Nat.reduceMul, List.set_cons_zero, List.set_cons_succ, LV.scalar, List.all_cons, List.all_nil, Nat.lt_add_one, Nat.zero_lt_one, Nat.lt_irrefl, fillL, List.length_append, foldIntL, kind_beq, pures_int, solids_int, plains_int, unders_int, scalars_int, hc, h1, hf, hn, Nat.zero_lt_succ, List.headD_cons]
  · rw [if_neg h1, if_pos (by simpa using h1)]
    refine ⟨true, true, 0, fun m => call_P lp_ref07_Free rfl (by simp [LV.pures, LV.pure]) (m1 := []) ?_ (by simp [LV.pures, LV.pure]) m⟩
    simp only [ref07_Free, ref07_Free.B, beqT, beqF, exF_seq, exF_region, exF_block, exF_cond, exF_ret, exF_exit, exF_skip, runL, wantL, stepL, evL, LEnv.at, putL, loadFine, loadL, cellsAt, Trk.putNew, Trk.up, Trk.touch, Trk.gives, Trk.calm, Trk.hit, opdsOf, Trk.fresh, LEnv.keep, LEnv.ofFrom, List.map_cons, List.map_nil, nbeq, nble, nblt, ofAV, ofAVs, lenL, bin_add, bin_sub, bin_mul, bin_eql, bin_neq, bin_lss, bin_leq, bin_gtr, bin_geq, natL_nat, natL_zero, natL_one, natL_two, Nat.zero_mul, List.any_cons, List.any_nil, Bool.or_false, Bool.false_or, Bool.true_or, Bool.or_true, Bool.and_true, Bool.true_and, Bool.and_false, Bool.false_and, Bool.not_true, Bool.not_false, Nat.reduceBEq, Nat.reduceEqDiff, decide_true, decide_false, cond_true, cond_false, List.filter_nil, List.filter_cons, Nat.reduceAdd, Nat.reduceLeDiff, reduceCtorEq, List.length_nil, List.length_cons, Nat.mul_one, if_true, if_false, Bool.false_eq_true, eq_self, and_true, true_and, retL, resultsL, resAllL, resOfL, List.append_nil, List.nil_append, List.cons_append, true_or, or_true, false_or, or_false, false_and, and_false, not_true_eq_false, not_false_eq_true, ne_eq, unL, trim_nil, views_pures, LV.pures, LV.pure, freeze, Nat.reduceDiv, Int.reduceEq, Int.reduceLT, Int.reduceLE, Int.natCast_zero, LV.cells, allocL, List.getElem?_cons_zero, List.getElem?_cons_succ, storeL, spliceL, List.take_zero, List.take_succ_cons, List.drop_zero, List.drop_succ_cons, List.drop_nil, List.take_nil, Nat.le_refl, Nat.reduceMul, List.set_cons_zero, List.set_cons_succ, LV.scalar, List.all_cons, List.all_nil, Nat.lt_add_one, Nat.zero_lt_one, Nat.lt_irrefl, fillL, List.length_append, foldIntL, kind_beq, pures_int, solids_int, plains_int, unders_int, scalars_int, hc, h1]
    rfl
end Go.Am.Share


