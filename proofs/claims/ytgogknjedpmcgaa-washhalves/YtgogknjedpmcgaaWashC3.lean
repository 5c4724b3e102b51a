/-
  What functions of chapter 13 compute, 3: how many rings of each length; the reference's rings.
-/
import Derived.Test.YtgogknjedpmcgaaWashC2
set_option linter.unusedVariables false
set_option linter.unusedSimpArgs false
set_option maxRecDepth 10000
namespace Go.Am.Wash
open Go.Am.G

/-! ### Kinds -/
def kStep (K : List Nat) (l : List Nat) : List Nat := K.set l.length (nth K l.length + 1)
def kF : List Nat → List (List Nat) → List Nat
  | K, [] => K
  | K, l :: r => kF (kStep K l) r
def kindL (R : List (List Nat)) : List Nat := kF [0, 0, 0, 0, 0, 0, 0, 0] R
theorem kStep_len (K l : List Nat) : (kStep K l).length = K.length := by simp [kStep]
theorem kF_len : ∀ (R : List (List Nat)) (K : List Nat), (kF K R).length = K.length
  | [], _ => rfl
  | l :: r, K => by rw [kF, kF_len r, kStep_len]
def cnt (R : List (List Nat)) (x : Nat) : Nat := (R.filter fun l => decide (l.length = x)).length
theorem kF_at : ∀ (R : List (List Nat)) (K : List Nat), K.length = 8 → (∀ l ∈ R, l.length < 8) → ∀ x, x < 8 → nth (kF K R) x = nth K x + cnt R x
  | [], K, _, _, x, _ => rfl
  | l :: r, K, hK, h, x, hx => by
    have hl := h l (by simp)
    rw [kF, kF_at r (kStep K l) (by rw [kStep_len, hK]) (fun y hy => h y (by simp [hy])) x hx]
    simp only [nth_getD, kStep, cnt, List.filter_cons]
    by_cases c : l.length = x
    · subst c
      simp [List.getD_eq_getElem?_getD, List.getElem?_set, hK, hl, nth_getD]
      omega
    · simp [List.getD_eq_getElem?_getD, List.getElem?_set, c]
theorem kindL_at (R : List (List Nat)) (h : ∀ l ∈ R, l.length < 8) (x : Nat) (hx : x < 8) : nth (kindL R) x = cnt R x := by
  rw [kindL, kF_at R _ rfl h x hx]
  have : nth [0, 0, 0, 0, 0, 0, 0, 0] x = 0 := by
    match x, hx with
    | 0, _ | 1, _ | 2, _ | 3, _ | 4, _ | 5, _ | 6, _ | 7, _ => rfl
  omega
theorem kind_loop (a b : Bool) (R : List (List Nat)) (hR : ∀ l ∈ R, l.length < 8) (hlen : R.length ≤ 100) (n : Nat) : ∀ (k : Nat) (K : List Nat), k + n = R.length → K.length = 8 → (∀ x, nth K x ≤ k) →
    exF LP wash_kindOf.L0 [(2, .ptr 0 0 8), (3, .ptr 1 0 8), (7, .lst a b 1 R.length (rowsL R)), (8, .int .i64 (R.length : Int)), (9, .int .i64 (k : Int))] [⟨[.int .i64 0, .int .i64 0, .int .i64 0, .int .i64 0, .int .i64 0, .int .i64 0, .int .i64 0, .int .i64 0], true⟩, ⟨ints (ci K), true⟩] =
      some (.exit 0, [(2, .ptr 0 0 8), (3, .ptr 1 0 8)], [⟨[.int .i64 0, .int .i64 0, .int .i64 0, .int .i64 0, .int .i64 0, .int .i64 0, .int .i64 0, .int .i64 0], true⟩, ⟨ints (ci (kF K (R.drop k))), true⟩]) := by
  induction n with
  | zero =>
    intro k K hk hK hx
    rw [wash_kindOf.L0_eq]
    simp only [wash_kindOf.B0, beqT, beqF, exF_seq, exF_region, exF_block, exF_cond, exF_ret, exF_exit, exF_skip, runL, wantL, stepL, evL, LEnv.at, putL, loadFine, loadL, cellsAt, Trk.putNew, Trk.up, Trk.touch, Trk.gives, Trk.calm, Trk.hit, opdsOf, Trk.fresh, LEnv.keep, LEnv.ofFrom, List.map_cons, List.map_nil, nbeq, nble, nblt, ofAV, ofAVs, lenL, bin_add, bin_sub, bin_mul, bin_eql, bin_neq, bin_lss, bin_leq, bin_gtr, bin_geq, natL_nat, natL_zero, natL_one, natL_two, Nat.zero_mul, List.any_cons, List.any_nil, Bool.or_false, Bool.false_or, Bool.true_or, Bool.or_true, Bool.and_true, Bool.true_and, Bool.and_false, Bool.false_and, Bool.not_true, Bool.not_false, Nat.reduceBEq, Nat.reduceEqDiff, decide_true, decide_false, cond_true, cond_false, List.filter_nil, List.filter_cons, Nat.reduceAdd, Nat.reduceLeDiff, reduceCtorEq, List.length_nil, List.length_cons, Nat.mul_one, if_true, if_false, Bool.false_eq_true, eq_self, and_true, true_and, retL, resultsL, resAllL, resOfL, List.append_nil, List.nil_append, List.cons_append, true_or, or_true, false_or, or_false, false_and, and_false, not_true_eq_false, not_false_eq_true, ne_eq, unL, trim_nil, views_pures, LV.pures, LV.pure, freeze, Nat.reduceDiv, Int.reduceEq, Int.reduceLT, Int.reduceLE, Int.natCast_zero, LV.cells, allocL, List.getElem?_cons_zero, List.getElem?_cons_succ, storeL, spliceL, List.take_zero, List.take_succ_cons, List.drop_zero, List.drop_succ_cons, List.drop_nil, List.take_nil, Nat.le_refl, Nat.reduceMul, List.set_cons_zero, List.set_cons_succ, LV.scalar, List.all_cons, List.all_nil, Nat.lt_add_one, Nat.zero_lt_one, Nat.reduceLT, Nat.lt_irrefl, fillL, List.length_append, foldIntL, kind_beq, pures_int, solids_int, plains_int, unders_int, scalars_int, show ¬ ((k : Int) < (R.length : Int)) by omega, List.drop_eq_nil_of_le (show R.length ≤ k by omega), kF]
  | succ n ih =>
    intro k K hk hK hx
    have h2 : k < R.length := by omega
    have hl := hR _ (List.getElem_mem h2)
    have hlK : R[k].length < K.length := by omega
    have hcl : (ci R[k]).length = R[k].length := by simp
    have hv : K[R[k].length] ≤ k := by have := hx R[k].length; rw [nth_at K _ hlK] at this; exact this
    have hKc : (ints (ci K)).length = 8 := by simp [hK]
    have hat : (ints (ci K))[R[k].length]? = some (.int .i64 ((K[R[k].length] : Nat) : Int)) := by
      rw [ints, ci_map]; exact nat_at _ _ _ hlK
    have hst : (ints (ci K)).take R[k].length ++ [.int .i64 ((K[R[k].length] + 1 : Nat) : Int)] ++ (ints (ci K)).drop (R[k].length + 1) = ints (ci (kStep K R[k])) := by
      have hlc : R[k].length < (ci K).length := by rw [ci_len]; exact hlK
      have := set_int .i64 (ci K) R[k].length ((K[R[k].length] + 1 : Nat) : Int) hlc
      rw [ints, this, kStep, nth_at K _ hlK]
      simp [List.map_set]
    have ih := ih (k + 1) (kStep K R[k]) (by omega) (by rw [kStep_len, hK]) (fun x => by
      have h1 := hx x
      simp only [nth_getD, kStep, List.getD_eq_getElem?_getD, List.getElem?_set] at h1 ⊢
      split
      · rename_i e
        subst e
        simp only [hlK, if_true, Option.getD_some]
        omega
      · omega)
    rw [wash_kindOf.L0_eq, List.drop_eq_getElem_cons h2, kF]
    simp only [wash_kindOf.B0, beqT, beqF, exF_seq, exF_region, exF_block, exF_cond, exF_ret, exF_exit, exF_skip, runL, wantL, stepL, evL, LEnv.at, putL, loadFine, loadL, cellsAt, Trk.putNew, Trk.up, Trk.touch, Trk.gives, Trk.calm, Trk.hit, opdsOf, Trk.fresh, LEnv.keep, LEnv.ofFrom, List.map_cons, List.map_nil, nbeq, nble, nblt, ofAV, ofAVs, lenL, bin_add, bin_sub, bin_mul, bin_eql, bin_neq, bin_lss, bin_leq, bin_gtr, bin_geq, natL_nat, natL_zero, natL_one, natL_two, Nat.zero_mul, List.any_cons, List.any_nil, Bool.or_false, Bool.false_or, Bool.true_or, Bool.or_true, Bool.and_true, Bool.true_and, Bool.and_false, Bool.false_and, Bool.not_true, Bool.not_false, Nat.reduceBEq, Nat.reduceEqDiff, decide_true, decide_false, cond_true, cond_false, List.filter_nil, List.filter_cons, Nat.reduceAdd, Nat.reduceLeDiff, reduceCtorEq, List.length_nil, List.length_cons, Nat.mul_one, if_true, if_false, Bool.false_eq_true, eq_self, and_true, true_and, retL, resultsL, resAllL, resOfL, List.append_nil, List.nil_append, List.cons_append, true_or, or_true, false_or, or_false, false_and, and_false, not_true_eq_false, not_false_eq_true, ne_eq, unL, trim_nil, views_pures, LV.pures, LV.pure, freeze, Nat.reduceDiv, Int.reduceEq, Int.reduceLT, Int.reduceLE, Int.natCast_zero, LV.cells, allocL, List.getElem?_cons_zero, List.getElem?_cons_succ, storeL, spliceL, List.take_zero, List.take_succ_cons, List.drop_zero, List.drop_succ_cons, List.drop_nil, List.take_nil, Nat.le_refl, Nat.reduceMul, List.set_cons_zero, List.set_cons_succ, LV.scalar, List.all_cons, List.all_nil, Nat.lt_add_one, Nat.zero_lt_one, Nat.reduceLT, Nat.lt_irrefl, fillL, List.length_append, foldIntL, kind_beq, pures_int, solids_int, plains_int, unders_int, scalars_int, show ((k : Int) < (R.length : Int)) by omega, h2, rowsL_at _ _ h2, hcl, hl, Nat.zero_add, hKc, hat, wrap_succ (show K[R[k].length] + 1 < 9223372036854775808 by omega), show R[k].length + 1 ≤ 8 by omega, hst, wrap_succ (show k + 1 < 9223372036854775808 by omega), ih]
theorem kind_c (nl ex : Bool) (sz : Nat) (t : List Nat) (h7 : t.length ≤ 7) (hlt : ∀ x ∈ t, x < 7) (R : List (List Nat)) (h : ringsP t = some R) (h0 : R ≠ []) (hR : ∀ l ∈ R, l.length < 8) (hlen : R.length ≤ 100) (m : LMem) : clF LP n_wash_kindOf [IL nl ex sz (ci t)] m = some (.P, .agg (ints (ci (kindL R))), m) := by
  obtain ⟨a, b, hr⟩ := rings_c nl ex sz t h7 hlt R h h0
  have hl := kind_loop a b R hR hlen R.length 0 [0, 0, 0, 0, 0, 0, 0, 0] (by omega) rfl (fun x => by
    have := kindL_at [] (by simp) 
    match x with
    | 0 | 1 | 2 | 3 | 4 | 5 | 6 | 7 => simp [nth]
    | x + 8 => simp [nth])
  have hk : (ints (ci (kindL R))).length = 8 := by simp [kindL, kF_len]
  have hl : exF LP wash_kindOf.L0 [(2, .ptr 0 0 8), (3, .ptr 1 0 8), (7, .lst a b 1 R.length (rowsL R)), (8, .int .i64 (R.length : Int)), (9, .int .i64 0)] [⟨[.int .i64 0, .int .i64 0, .int .i64 0, .int .i64 0, .int .i64 0, .int .i64 0, .int .i64 0, .int .i64 0], true⟩, ⟨[.int .i64 0, .int .i64 0, .int .i64 0, .int .i64 0, .int .i64 0, .int .i64 0, .int .i64 0, .int .i64 0], true⟩] = some (.exit 0, [(2, .ptr 0 0 8), (3, .ptr 1 0 8)], [⟨[.int .i64 0, .int .i64 0, .int .i64 0, .int .i64 0, .int .i64 0, .int .i64 0, .int .i64 0, .int .i64 0], true⟩, ⟨ints (ci (kindL R)), true⟩]) := hl
  have hsc : (ints (ci (kindL R))).all LV.scalar = true := scalars_int _ _
  have htk : (ints (ci (kindL R))).take 8 = ints (ci (kindL R)) := List.take_of_length_le (by omega)
  have hdr : (ints (ci (kindL R))).drop 8 = [] := List.drop_eq_nil_of_le (by omega)
  have hpu : LV.pures (ints (ci (kindL R))) = true := pures_int .i64 (ci (kindL R))
  generalize ints (ci (kindL R)) = w at *
  refine call_P lp_wash_kindOf rfl (by simp [LV.pures, LV.pure]) (m1 := [⟨w, true⟩, ⟨w, true⟩]) ?_ (by simpa [LV.pure] using hpu) m
  simp only [wash_kindOf, wash_kindOf.B, beqT, beqF, exF_seq, exF_region, exF_block, exF_cond, exF_ret, exF_exit, exF_skip, runL, wantL, stepL, evL, LEnv.at, putL, loadFine, loadL, cellsAt, Trk.putNew, Trk.up, Trk.touch, Trk.gives, Trk.calm, Trk.hit, opdsOf, Trk.fresh, LEnv.keep, LEnv.ofFrom, List.map_cons, List.map_nil, nbeq, nble, nblt, ofAV, ofAVs, lenL, bin_add, bin_sub, bin_mul, bin_eql, bin_neq, bin_lss, bin_leq, bin_gtr, bin_geq, natL_nat, natL_zero, natL_one, natL_two, Nat.zero_mul, List.any_cons, List.any_nil, Bool.or_false, Bool.false_or, Bool.true_or, Bool.or_true, Bool.and_true, Bool.true_and, Bool.and_false, Bool.false_and, Bool.not_true, Bool.not_false, Nat.reduceBEq, Nat.reduceEqDiff, decide_true, decide_false, cond_true, cond_false, List.filter_nil, List.filter_cons, Nat.reduceAdd, Nat.reduceLeDiff, reduceCtorEq, List.length_nil, List.length_cons, Nat.mul_one, if_true, if_false, Bool.false_eq_true, eq_self, and_true, true_and, retL, resultsL, resAllL, resOfL, List.append_nil, List.nil_append, List.cons_append, true_or, or_true, false_or, or_false, false_and, and_false, not_true_eq_false, not_false_eq_true, ne_eq, unL, trim_nil, views_pures, LV.pures, LV.pure, freeze, Nat.reduceDiv, Int.reduceEq, Int.reduceLT, Int.reduceLE, Int.natCast_zero, LV.cells, allocL, List.getElem?_cons_zero, List.getElem?_cons_succ, storeL, spliceL, List.take_zero, List.take_succ_cons, List.drop_zero, List.drop_succ_cons, List.drop_nil, List.take_nil, Nat.le_refl, Nat.reduceMul, List.set_cons_zero, List.set_cons_succ, LV.scalar, List.all_cons, List.all_nil, Nat.lt_add_one, Nat.zero_lt_one, Nat.reduceLT, Nat.lt_irrefl, fillL, List.length_append, foldIntL, kind_beq, pures_int, solids_int, plains_int, unders_int, scalars_int, hr, hl, hk, htk, hsc]

/-! ### The reference's rings -/
abbrev rowR (l : List Nat) : LV := .lst false (decide (l.length = 1)) 1 l.length (ints (ci l))
theorem rowR_long (l : List Nat) (h : 2 ≤ l.length) : rowR l = RLn l := by
  have h1 : decide (l.length = 1) = false := by simp; omega
  have h2 : decide (ci l = []) = false := by
    simp only [decide_eq_false_iff_not]; intro c
    have := congrArg List.length c
    simp at this; subst this; simp at h
  simp only [rowR, RLn, RL, IL, h1, h2, ci_len, cond_false]
theorem ring_loop (nl ex : Bool) (sz : Nat) (t : List Nat) (hlt : ∀ x ∈ t, x < 7) (p : Nat) (l : List Nat) (f : Nat) : ∀ (q : Nat) (out : List Nat), rgF t p f q out = some l → out.length + f ≤ 1000 → 2 ≤ out.length →
    exF LP ref13_ring.L0 [(0, IL nl ex sz (ci t)), (1, .int .i64 (p : Int)), (5, GV 0 (ci out)), (6, .int .i64 (q : Int))] (GM (ci out)) = some (.exit 0, [(5, GV 0 (ci l))], GM (ci l)) ∧ 2 ≤ l.length := by
  induction f with
  | zero => intro q out h; cases h
  | succ f ih =>
    intro q out h ho h2
    rw [rgF] at h
    by_cases c : q = p
    · subst c
      simp only [Nat.beq_refl, cond_true] at h
      obtain rfl := Option.some.inj h
      refine ⟨?_, h2⟩
      rw [ref13_ring.L0_eq]
      simp only [ref13_ring.B0, beqT, beqF, exF_seq, exF_region, exF_block, exF_cond, exF_ret, exF_exit, exF_skip, runL, wantL, stepL, evL, LEnv.at, putL, loadFine, loadL, cellsAt, Trk.putNew, Trk.up, Trk.touch, Trk.gives, Trk.calm, Trk.hit, opdsOf, Trk.fresh, LEnv.keep, LEnv.ofFrom, List.map_cons, List.map_nil, nbeq, nble, nblt, ofAV, ofAVs, lenL, bin_add, bin_sub, bin_mul, bin_eql, bin_neq, bin_lss, bin_leq, bin_gtr, bin_geq, natL_nat, natL_zero, natL_one, natL_two, Nat.zero_mul, List.any_cons, List.any_nil, Bool.or_false, Bool.false_or, Bool.true_or, Bool.or_true, Bool.and_true, Bool.true_and, Bool.and_false, Bool.false_and, Bool.not_true, Bool.not_false, Nat.reduceBEq, Nat.reduceEqDiff, decide_true, decide_false, cond_true, cond_false, List.filter_nil, List.filter_cons, Nat.reduceAdd, Nat.reduceLeDiff, reduceCtorEq, List.length_nil, List.length_cons, Nat.mul_one, if_true, if_false, Bool.false_eq_true, eq_self, and_true, true_and, retL, resultsL, resAllL, resOfL, List.append_nil, List.nil_append, List.cons_append, true_or, or_true, false_or, or_false, false_and, and_false, not_true_eq_false, not_false_eq_true, ne_eq, unL, trim_nil, views_pures, LV.pures, LV.pure, freeze, Nat.reduceDiv, Int.reduceEq, Int.reduceLT, Int.reduceLE, Int.natCast_zero, LV.cells, allocL, List.getElem?_cons_zero, List.getElem?_cons_succ, storeL, spliceL, List.take_zero, List.take_succ_cons, List.drop_zero, List.drop_succ_cons, List.drop_nil, List.take_nil, Nat.le_refl, Nat.reduceMul, List.set_cons_zero, List.set_cons_succ, LV.scalar, List.all_cons, List.all_nil, Nat.lt_add_one, Nat.zero_lt_one, Nat.reduceLT, Nat.lt_irrefl, fillL, List.length_append, foldIntL, kind_beq, pures_int, solids_int, plains_int, unders_int, scalars_int]
    · have e : Nat.beq q p = false := by rw [nbeq]; simpa using c
      have c' : ¬ (q : Int) = (p : Int) := by omega
      rw [e, cond_false] at h
      by_cases c2 : q < t.length
      · have e2 : Nat.blt q t.length = true := by rw [nblt]; simpa using c2
        rw [e2, cond_true, nth_at t q c2] at h
        have ap := append_grow0 (ci out) (q : Int) true (by rw [ci_len]; omega)
        have el : ci out ++ [(q : Int)] = ci (out ++ [q]) := by simp
        rw [el] at ap
        obtain ⟨g1, g2⟩ := ih t[q] (out ++ [q]) h (by simp; omega) (by simp; omega)
        refine ⟨?_, g2⟩
        rw [ref13_ring.L0_eq]
        simp only [IL, ci_len, ci_map] at g1 ⊢
        simp only [ref13_ring.B0, beqT, beqF, exF_seq, exF_region, exF_block, exF_cond, exF_ret, exF_exit, exF_skip, runL, wantL, stepL, evL, LEnv.at, putL, loadFine, loadL, cellsAt, Trk.putNew, Trk.up, Trk.touch, Trk.gives, Trk.calm, Trk.hit, opdsOf, Trk.fresh, LEnv.keep, LEnv.ofFrom, List.map_cons, List.map_nil, nbeq, nble, nblt, ofAV, ofAVs, lenL, bin_add, bin_sub, bin_mul, bin_eql, bin_neq, bin_lss, bin_leq, bin_gtr, bin_geq, natL_nat, natL_zero, natL_one, natL_two, Nat.zero_mul, List.any_cons, List.any_nil, Bool.or_false, Bool.false_or, Bool.true_or, Bool.or_true, Bool.and_true, Bool.true_and, Bool.and_false, Bool.false_and, Bool.not_true, Bool.not_false, Nat.reduceBEq, Nat.reduceEqDiff, decide_true, decide_false, cond_true, cond_false, List.filter_nil, List.filter_cons, Nat.reduceAdd, Nat.reduceLeDiff, reduceCtorEq, List.length_nil, List.length_cons, Nat.mul_one, if_true, if_false, Bool.false_eq_true, eq_self, and_true, true_and, retL, resultsL, resAllL, resOfL, List.append_nil, List.nil_append, List.cons_append, true_or, or_true, false_or, or_false, false_and, and_false, not_true_eq_false, not_false_eq_true, ne_eq, unL, trim_nil, views_pures, LV.pures, LV.pure, freeze, Nat.reduceDiv, Int.reduceEq, Int.reduceLT, Int.reduceLE, Int.natCast_zero, LV.cells, allocL, List.getElem?_cons_zero, List.getElem?_cons_succ, storeL, spliceL, List.take_zero, List.take_succ_cons, List.drop_zero, List.drop_succ_cons, List.drop_nil, List.take_nil, Nat.le_refl, Nat.reduceMul, List.set_cons_zero, List.set_cons_succ, LV.scalar, List.all_cons, List.all_nil, Nat.lt_add_one, Nat.zero_lt_one, Nat.reduceLT, Nat.lt_irrefl, fillL, List.length_append, foldIntL, kind_beq, pures_int, solids_int, plains_int, unders_int, scalars_int, c', ap, c2, nat_at _ _ _ c2, g1]
      · have e2 : Nat.blt q t.length = false := by rw [nblt]; simpa using c2
        rw [e2] at h; cases h
theorem ring_c (nl ex : Bool) (sz : Nat) (t : List Nat) (hlt : ∀ x ∈ t, x < 7) (p : Nat) (hp : p < t.length) (l : List Nat) (h : ringR t p = some l) (m : LMem) : clF LP n_ref13_ring [IL nl ex sz (ci t), .int .i64 (p : Int)] m = some (.P, rowR l, m) := by
  unfold ringR at h
  rw [nth_at t p hp, rgF] at h
  by_cases c : t[p] = p
  · rw [c] at h
    simp only [Nat.beq_refl, cond_true] at h
    obtain rfl := Option.some.inj h
    have e : exF LP ref13_ring.L0 [(0, IL nl ex sz (ci t)), (1, .int .i64 (p : Int)), (5, .lst false true 1 1 [.int .i64 (p : Int)]), (6, .int .i64 (p : Int))] [] = some (.exit 0, [(5, .lst false true 1 1 [.int .i64 (p : Int)])], []) := by
      rw [ref13_ring.L0_eq]
      simp only [ref13_ring.B0, beqT, beqF, exF_seq, exF_region, exF_block, exF_cond, exF_ret, exF_exit, exF_skip, runL, wantL, stepL, evL, LEnv.at, putL, loadFine, loadL, cellsAt, Trk.putNew, Trk.up, Trk.touch, Trk.gives, Trk.calm, Trk.hit, opdsOf, Trk.fresh, LEnv.keep, LEnv.ofFrom, List.map_cons, List.map_nil, nbeq, nble, nblt, ofAV, ofAVs, lenL, bin_add, bin_sub, bin_mul, bin_eql, bin_neq, bin_lss, bin_leq, bin_gtr, bin_geq, natL_nat, natL_zero, natL_one, natL_two, Nat.zero_mul, List.any_cons, List.any_nil, Bool.or_false, Bool.false_or, Bool.true_or, Bool.or_true, Bool.and_true, Bool.true_and, Bool.and_false, Bool.false_and, Bool.not_true, Bool.not_false, Nat.reduceBEq, Nat.reduceEqDiff, decide_true, decide_false, cond_true, cond_false, List.filter_nil, List.filter_cons, Nat.reduceAdd, Nat.reduceLeDiff, reduceCtorEq, List.length_nil, List.length_cons, Nat.mul_one, if_true, if_false, Bool.false_eq_true, eq_self, and_true, true_and, retL, resultsL, resAllL, resOfL, List.append_nil, List.nil_append, List.cons_append, true_or, or_true, false_or, or_false, false_and, and_false, not_true_eq_false, not_false_eq_true, ne_eq, unL, trim_nil, views_pures, LV.pures, LV.pure, freeze, Nat.reduceDiv, Int.reduceEq, Int.reduceLT, Int.reduceLE, Int.natCast_zero, LV.cells, allocL, List.getElem?_cons_zero, List.getElem?_cons_succ, storeL, spliceL, List.take_zero, List.take_succ_cons, List.drop_zero, List.drop_succ_cons, List.drop_nil, List.take_nil, Nat.le_refl, Nat.reduceMul, List.set_cons_zero, List.set_cons_succ, LV.scalar, List.all_cons, List.all_nil, Nat.lt_add_one, Nat.zero_lt_one, Nat.reduceLT, Nat.lt_irrefl, fillL, List.length_append, foldIntL, kind_beq, pures_int, solids_int, plains_int, unders_int, scalars_int]
    refine call_P lp_ref13_ring rfl (by simp [LV.pures, LV.pure]) (m1 := []) ?_ (by simp [LV.pures, LV.pure]) m
    have hat := nat_at .i64 t p hp
    rw [c] at hat
    simp only [IL, ci_len, ci_map] at e ⊢
    simp only [ref13_ring, ref13_ring.B, beqT, beqF, exF_seq, exF_region, exF_block, exF_cond, exF_ret, exF_exit, exF_skip, runL, wantL, stepL, evL, LEnv.at, putL, loadFine, loadL, cellsAt, Trk.putNew, Trk.up, Trk.touch, Trk.gives, Trk.calm, Trk.hit, opdsOf, Trk.fresh, LEnv.keep, LEnv.ofFrom, List.map_cons, List.map_nil, nbeq, nble, nblt, ofAV, ofAVs, lenL, bin_add, bin_sub, bin_mul, bin_eql, bin_neq, bin_lss, bin_leq, bin_gtr, bin_geq, natL_nat, natL_zero, natL_one, natL_two, Nat.zero_mul, List.any_cons, List.any_nil, Bool.or_false, Bool.false_or, Bool.true_or, Bool.or_true, Bool.and_true, Bool.true_and, Bool.and_false, Bool.false_and, Bool.not_true, Bool.not_false, Nat.reduceBEq, Nat.reduceEqDiff, decide_true, decide_false, cond_true, cond_false, List.filter_nil, List.filter_cons, Nat.reduceAdd, Nat.reduceLeDiff, reduceCtorEq, List.length_nil, List.length_cons, Nat.mul_one, if_true, if_false, Bool.false_eq_true, eq_self, and_true, true_and, retL, resultsL, resAllL, resOfL, List.append_nil, List.nil_append, List.cons_append, true_or, or_true, false_or, or_false, false_and, and_false, not_true_eq_false, not_false_eq_true, ne_eq, unL, trim_nil, views_pures, LV.pures, LV.pure, freeze, Nat.reduceDiv, Int.reduceEq, Int.reduceLT, Int.reduceLE, Int.natCast_zero, LV.cells, allocL, List.getElem?_cons_zero, List.getElem?_cons_succ, storeL, spliceL, List.take_zero, List.take_succ_cons, List.drop_zero, List.drop_succ_cons, List.drop_nil, List.take_nil, Nat.le_refl, Nat.reduceMul, List.set_cons_zero, List.set_cons_succ, LV.scalar, List.all_cons, List.all_nil, Nat.lt_add_one, Nat.zero_lt_one, Nat.reduceLT, Nat.lt_irrefl, fillL, List.length_append, foldIntL, kind_beq, pures_int, solids_int, plains_int, unders_int, scalars_int, hp, hat, e]
    rfl
  · have e : Nat.beq t[p] p = false := by rw [nbeq]; simpa using c
    have c' : ¬ ((t[p] : Nat) : Int) = (p : Int) := by omega
    rw [e, cond_false] at h
    by_cases c2 : t[p] < t.length
    · have e2 : Nat.blt t[p] t.length = true := by rw [nblt]; simpa using c2
      rw [e2, cond_true, nth_at t _ c2] at h
      obtain ⟨g1, g2⟩ := ring_loop nl ex sz t hlt p l 8 t[t[p]] ([p] ++ [t[p]]) h (by simp) (by simp)
      have hv := view_grow0 37 (ci l)
      rw [rowR_long l g2]
      have ap : appendL [] 1 8 (.lst false true 1 1 [.int .i64 (p : Int)]) (.lst false true 1 1 [.int .i64 ((t[p] : Nat) : Int)]) = some (GV 0 (ci ([p] ++ [t[p]])), GM (ci ([p] ++ [t[p]]))) := by
        simp [appendL, contents, newSl, GV, GM, nbeq, nble, roomMost, LV.scalar]
      obtain ⟨z, hz⟩ : ∃ z, z = [p] ++ [t[p]] := ⟨_, rfl⟩
      rw [← hz] at ap g1
      have hat := nat_at .i64 t p hp
      refine call_Pv lp_ref13_ring rfl (by simp [LV.pures, LV.pure]) ?_ hv m
      simp only [IL, ci_len, ci_map] at g1 ⊢
      have e : exF LP ref13_ring.L0 [(0, .lst nl ex sz t.length (t.map fun y : Nat => LV.int .i64 (y : Int))), (1, .int .i64 (p : Int)), (5, .lst false true 1 1 [.int .i64 (p : Int)]), (6, .int .i64 ((t[p] : Nat) : Int))] [] = some (.exit 0, [(5, GV 0 (ci l))], GM (ci l)) := by
        rw [ref13_ring.L0_eq]
        simp only [ref13_ring.B0, beqT, beqF, exF_seq, exF_region, exF_block, exF_cond, exF_ret, exF_exit, exF_skip, runL, wantL, stepL, evL, LEnv.at, putL, loadFine, loadL, cellsAt, Trk.putNew, Trk.up, Trk.touch, Trk.gives, Trk.calm, Trk.hit, opdsOf, Trk.fresh, LEnv.keep, LEnv.ofFrom, List.map_cons, List.map_nil, nbeq, nble, nblt, ofAV, ofAVs, lenL, bin_add, bin_sub, bin_mul, bin_eql, bin_neq, bin_lss, bin_leq, bin_gtr, bin_geq, natL_nat, natL_zero, natL_one, natL_two, Nat.zero_mul, List.any_cons, List.any_nil, Bool.or_false, Bool.false_or, Bool.true_or, Bool.or_true, Bool.and_true, Bool.true_and, Bool.and_false, Bool.false_and, Bool.not_true, Bool.not_false, Nat.reduceBEq, Nat.reduceEqDiff, decide_true, decide_false, cond_true, cond_false, List.filter_nil, List.filter_cons, Nat.reduceAdd, Nat.reduceLeDiff, reduceCtorEq, List.length_nil, List.length_cons, Nat.mul_one, if_true, if_false, Bool.false_eq_true, eq_self, and_true, true_and, retL, resultsL, resAllL, resOfL, List.append_nil, List.nil_append, List.cons_append, true_or, or_true, false_or, or_false, false_and, and_false, not_true_eq_false, not_false_eq_true, ne_eq, unL, trim_nil, views_pures, LV.pures, LV.pure, freeze, Nat.reduceDiv, Int.reduceEq, Int.reduceLT, Int.reduceLE, Int.natCast_zero, LV.cells, allocL, List.getElem?_cons_zero, List.getElem?_cons_succ, storeL, spliceL, List.take_zero, List.take_succ_cons, List.drop_zero, List.drop_succ_cons, List.drop_nil, List.take_nil, Nat.le_refl, Nat.reduceMul, List.set_cons_zero, List.set_cons_succ, LV.scalar, List.all_cons, List.all_nil, Nat.lt_add_one, Nat.zero_lt_one, Nat.reduceLT, Nat.lt_irrefl, fillL, List.length_append, foldIntL, kind_beq, pures_int, solids_int, plains_int, unders_int, scalars_int, c', ap, c2, nat_at _ _ _ c2, g1]
      simp only [ref13_ring, ref13_ring.B, beqT, beqF, exF_seq, exF_region, exF_block, exF_cond, exF_ret, exF_exit, exF_skip, runL, wantL, stepL, evL, LEnv.at, putL, loadFine, loadL, cellsAt, Trk.putNew, Trk.up, Trk.touch, Trk.gives, Trk.calm, Trk.hit, opdsOf, Trk.fresh, LEnv.keep, LEnv.ofFrom, List.map_cons, List.map_nil, nbeq, nble, nblt, ofAV, ofAVs, lenL, bin_add, bin_sub, bin_mul, bin_eql, bin_neq, bin_lss, bin_leq, bin_gtr, bin_geq, natL_nat, natL_zero, natL_one, natL_two, Nat.zero_mul, List.any_cons, List.any_nil, Bool.or_false, Bool.false_or, Bool.true_or, Bool.or_true, Bool.and_true, Bool.true_and, Bool.and_false, Bool.false_and, Bool.not_true, Bool.not_false, Nat.reduceBEq, Nat.reduceEqDiff, decide_true, decide_false, cond_true, cond_false, List.filter_nil, List.filter_cons, Nat.reduceAdd, Nat.reduceLeDiff, reduceCtorEq, List.length_nil, List.length_cons, Nat.mul_one, if_true, if_false, Bool.false_eq_true, eq_self, and_true, true_and, retL, resultsL, resAllL, resOfL, List.append_nil, List.nil_append, List.cons_append, true_or, or_true, false_or, or_false, false_and, and_false, not_true_eq_false, not_false_eq_true, ne_eq, unL, trim_nil, views_pures, LV.pures, LV.pure, freeze, Nat.reduceDiv, Int.reduceEq, Int.reduceLT, Int.reduceLE, Int.natCast_zero, LV.cells, allocL, List.getElem?_cons_zero, List.getElem?_cons_succ, storeL, spliceL, List.take_zero, List.take_succ_cons, List.drop_zero, List.drop_succ_cons, List.drop_nil, List.take_nil, Nat.le_refl, Nat.reduceMul, List.set_cons_zero, List.set_cons_succ, LV.scalar, List.all_cons, List.all_nil, Nat.lt_add_one, Nat.zero_lt_one, Nat.reduceLT, Nat.lt_irrefl, fillL, List.length_append, foldIntL, kind_beq, pures_int, solids_int, plains_int, unders_int, scalars_int, hp, hat, e]
    · have e2 : Nat.blt t[p] t.length = false := by rw [nblt]; simpa using c2
      rw [e2] at h; cases h
end Go.Am.Wash

