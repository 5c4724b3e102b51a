/-
  What functions of chapter 13 compute, 5: where things are, when all is back, when a thing comes to a place.
-/
import Derived.Test.YtgogknjedpmcgaaWashC3
import Derived.Test.YtgogknjedpmcgaaWashL
import Derived.Test.YtgogknjedpmcgaaLm11
import Derived.KernelRfl
set_option linter.unusedVariables false
set_option linter.unusedSimpArgs false
set_option maxRecDepth 10000
namespace Go.Am.Wash
open Go.Am.G

theorem thenN_len (a b : List Nat) : (thenN a b).length = a.length := by simp [thenN]
theorem thenN_lt {a b : List Nat} {N : Nat} (hb : ∀ x ∈ b, x < N) (h0 : 0 < N) : ∀ x ∈ thenN a b, x < N := by
  intro x hx
  simp only [thenN, List.mem_map] at hx
  obtain ⟨y, _, rfl⟩ := hx
  exact nth_lt hb h0 y
/-- A tide that was accepted. -/
structure Td (t : List Nat) : Prop where
  T : Tide t.length t
  h1 : 1 ≤ t.length
  h7 : t.length ≤ 7
theorem Td.lt {t : List Nat} (D : Td t) : ∀ x ∈ t, x < t.length := D.T.2.2
theorem Td.lt7 {t : List Nat} (D : Td t) : ∀ x ∈ t, x < 7 := fun x hx => by have := D.lt x hx; have := D.h7; omega
theorem td_of {t : List Int} (h : chkT t = 0) : ∃ q : List Nat, t = ci q ∧ Td q := by
  obtain ⟨q, e, h1, h2, h3⟩ := tide_of h
  exact ⟨q, e, h1, h2, h3⟩

/-! ### The program's -/
theorem cntN_eq : ∀ (R : List (List Nat)) (x : Nat), cntN R x = cnt R x
  | [], _ => rfl
  | l :: r, x => by
    rw [cntN, cntN_eq r x]
    unfold cnt
    rw [List.filter_cons]
    by_cases c : l.length = x
    · rw [c, Nat.beq_refl]; simp
    · have : Nat.beq l.length x = false := by rw [nbeq]; simpa using c
      rw [this]; simp [c]
theorem bl_loop (K : List Nat) (hK : K.length = 8) (hKb : ∀ x, nth K x ≤ 100) (m step r : Nat) (hm : m < 8) (hm0 : 0 < m) (f : Nat) : ∀ (n : Nat), backL (nth K m) m step f n = some r → n + f * step ≤ 1000000 →
    exF LP wash_Back.L0 [(5, .ptr 0 0 8), (6, .int .i64 (n : Int)), (7, .int .i64 (m : Int)), (8, .int .i64 (step : Int))] [⟨ints (ci K), true⟩] = some (.exit 2, [(5, .ptr 0 0 8), (6, .int .i64 (r : Int)), (7, .int .i64 (m : Int))], [⟨ints (ci K), true⟩]) := by
  have hKc : (ints (ci K)).length = 8 := by simp [hK]
  have hat : (ints (ci K))[m]? = some (.int .i64 ((nth K m : Nat) : Int)) := by
    rw [nth_at K m (by omega), ints, ci_map]; exact nat_at _ _ _ (by omega)
  have hne : ((m : Nat) : Int) ≠ 0 := by omega
  induction f with
  | zero => intro n h; cases h
  | succ f ih =>
    intro n h hn
    rw [backL] at h
    rw [Nat.add_mul, Nat.one_mul] at hn
    by_cases c : nth K m = 0
    · rw [c] at h
      simp only [Nat.beq_refl, cond_true] at h
      obtain rfl := Option.some.inj h
      rw [c] at hat
      simp only [Int.natCast_zero] at hat
      rw [wash_Back.L0_eq]
      simp only [wash_Back.B0, beqT, beqF, exF_seq, exF_region, exF_block, exF_cond, exF_ret, exF_exit, exF_skip, runL, wantL, stepL, evL, LEnv.at, putL, loadFine, loadL, cellsAt, Trk.putNew, Trk.up, Trk.touch, Trk.gives, Trk.calm, Trk.hit, opdsOf, Trk.fresh, LEnv.keep, LEnv.ofFrom, List.map_cons, List.map_nil, nbeq, nble, nblt, ofAV, ofAVs, lenL, bin_add, bin_sub, bin_mul, bin_eql, bin_neq, bin_lss, bin_leq, bin_gtr, bin_geq, natL_nat, natL_zero, natL_one, natL_two, Nat.zero_mul, List.any_cons, List.any_nil, Bool.or_false, Bool.false_or, Bool.true_or, Bool.or_true, Bool.and_true, Bool.true_and, Bool.and_false, Bool.false_and, Bool.not_true, Bool.not_false, Nat.reduceBEq, Nat.reduceEqDiff, decide_true, decide_false, cond_true, cond_false, List.filter_nil, List.filter_cons, Nat.reduceAdd, Nat.reduceLeDiff, reduceCtorEq, List.length_nil, List.length_cons, Nat.mul_one, if_true, if_false, Bool.false_eq_true, eq_self, and_true, true_and, retL, resultsL, resAllL, resOfL, List.append_nil, List.nil_append, List.cons_append, true_or, or_true, false_or, or_false, false_and, and_false, not_true_eq_false, not_false_eq_true, ne_eq, unL, trim_nil, views_pures, LV.pures, LV.pure, freeze, Nat.reduceDiv, Int.reduceEq, Int.reduceLT, Int.reduceLE, Int.natCast_zero, LV.cells, allocL, List.getElem?_cons_zero, List.getElem?_cons_succ, storeL, spliceL, List.take_zero, List.take_succ_cons, List.drop_zero, List.drop_succ_cons, List.drop_nil, List.take_nil, Nat.le_refl, Nat.reduceMul, List.set_cons_zero, List.set_cons_succ, LV.scalar, List.all_cons, List.all_nil, Nat.lt_add_one, Nat.zero_lt_one, Nat.reduceLT, Nat.lt_irrefl, fillL, List.length_append, foldIntL, kind_beq, pures_int, solids_int, plains_int, unders_int, scalars_int, hm, hKc, Nat.zero_add, hat]
    · have e : Nat.beq (nth K m) 0 = false := by rw [nbeq]; simpa using c
      have c' : (0 : Int) < (nth K m : Int) := by omega
      rw [e, cond_false] at h
      by_cases c2 : n % m = 0
      · rw [c2] at h
        simp only [Nat.beq_refl, cond_true] at h
        obtain rfl := Option.some.inj h
        have c2' : ((n % m : Nat) : Int) = 0 := by omega
        rw [wash_Back.L0_eq]
        simp only [wash_Back.B0, beqT, beqF, exF_seq, exF_region, exF_block, exF_cond, exF_ret, exF_exit, exF_skip, runL, wantL, stepL, evL, LEnv.at, putL, loadFine, loadL, cellsAt, Trk.putNew, Trk.up, Trk.touch, Trk.gives, Trk.calm, Trk.hit, opdsOf, Trk.fresh, LEnv.keep, LEnv.ofFrom, List.map_cons, List.map_nil, nbeq, nble, nblt, ofAV, ofAVs, lenL, bin_add, bin_sub, bin_mul, bin_eql, bin_neq, bin_lss, bin_leq, bin_gtr, bin_geq, natL_nat, natL_zero, natL_one, natL_two, Nat.zero_mul, List.any_cons, List.any_nil, Bool.or_false, Bool.false_or, Bool.true_or, Bool.or_true, Bool.and_true, Bool.true_and, Bool.and_false, Bool.false_and, Bool.not_true, Bool.not_false, Nat.reduceBEq, Nat.reduceEqDiff, decide_true, decide_false, cond_true, cond_false, List.filter_nil, List.filter_cons, Nat.reduceAdd, Nat.reduceLeDiff, reduceCtorEq, List.length_nil, List.length_cons, Nat.mul_one, if_true, if_false, Bool.false_eq_true, eq_self, and_true, true_and, retL, resultsL, resAllL, resOfL, List.append_nil, List.nil_append, List.cons_append, true_or, or_true, false_or, or_false, false_and, and_false, not_true_eq_false, not_false_eq_true, ne_eq, unL, trim_nil, views_pures, LV.pures, LV.pure, freeze, Nat.reduceDiv, Int.reduceEq, Int.reduceLT, Int.reduceLE, Int.natCast_zero, LV.cells, allocL, List.getElem?_cons_zero, List.getElem?_cons_succ, storeL, spliceL, List.take_zero, List.take_succ_cons, List.drop_zero, List.drop_succ_cons, List.drop_nil, List.take_nil, Nat.le_refl, Nat.reduceMul, List.set_cons_zero, List.set_cons_succ, LV.scalar, List.all_cons, List.all_nil, Nat.lt_add_one, Nat.zero_lt_one, Nat.reduceLT, Nat.lt_irrefl, fillL, List.length_append, foldIntL, kind_beq, pures_int, solids_int, plains_int, unders_int, scalars_int, hm, hKc, Nat.zero_add, hat, c', bin_rem _ _ _ hne, tmod_nat, c2']
      · have e2 : Nat.beq (n % m) 0 = false := by rw [nbeq]; simpa using c2
        rw [e2, cond_false] at h
        have c2' : ¬ ((n % m : Nat) : Int) = 0 := by omega
        have hw : IntKind.i64.wrap ((n : Int) + (step : Int)) = ((n + step : Nat) : Int) := by rw [wrap_in (by omega)]; omega
        have ih := ih (n + step) h (by omega)
        rw [wash_Back.L0_eq]
        simp only [wash_Back.B0, beqT, beqF, exF_seq, exF_region, exF_block, exF_cond, exF_ret, exF_exit, exF_skip, runL, wantL, stepL, evL, LEnv.at, putL, loadFine, loadL, cellsAt, Trk.putNew, Trk.up, Trk.touch, Trk.gives, Trk.calm, Trk.hit, opdsOf, Trk.fresh, LEnv.keep, LEnv.ofFrom, List.map_cons, List.map_nil, nbeq, nble, nblt, ofAV, ofAVs, lenL, bin_add, bin_sub, bin_mul, bin_eql, bin_neq, bin_lss, bin_leq, bin_gtr, bin_geq, natL_nat, natL_zero, natL_one, natL_two, Nat.zero_mul, List.any_cons, List.any_nil, Bool.or_false, Bool.false_or, Bool.true_or, Bool.or_true, Bool.and_true, Bool.true_and, Bool.and_false, Bool.false_and, Bool.not_true, Bool.not_false, Nat.reduceBEq, Nat.reduceEqDiff, decide_true, decide_false, cond_true, cond_false, List.filter_nil, List.filter_cons, Nat.reduceAdd, Nat.reduceLeDiff, reduceCtorEq, List.length_nil, List.length_cons, Nat.mul_one, if_true, if_false, Bool.false_eq_true, eq_self, and_true, true_and, retL, resultsL, resAllL, resOfL, List.append_nil, List.nil_append, List.cons_append, true_or, or_true, false_or, or_false, false_and, and_false, not_true_eq_false, not_false_eq_true, ne_eq, unL, trim_nil, views_pures, LV.pures, LV.pure, freeze, Nat.reduceDiv, Int.reduceEq, Int.reduceLT, Int.reduceLE, Int.natCast_zero, LV.cells, allocL, List.getElem?_cons_zero, List.getElem?_cons_succ, storeL, spliceL, List.take_zero, List.take_succ_cons, List.drop_zero, List.drop_succ_cons, List.drop_nil, List.take_nil, Nat.le_refl, Nat.reduceMul, List.set_cons_zero, List.set_cons_succ, LV.scalar, List.all_cons, List.all_nil, Nat.lt_add_one, Nat.zero_lt_one, Nat.reduceLT, Nat.lt_irrefl, fillL, List.length_append, foldIntL, kind_beq, pures_int, solids_int, plains_int, unders_int, scalars_int, hm, hKc, Nat.zero_add, hat, c', bin_rem _ _ _ hne, tmod_nat, c2', hw, ih]
theorem backL_ge (c m step r : Nat) (f : Nat) : ∀ n, backL c m step f n = some r → n ≤ r := by
  induction f with
  | zero => intro n h; cases h
  | succ f ih =>
    intro n h
    rw [backL] at h
    cases e : (cond (Nat.beq c 0) true (Nat.beq (n % m) 0))
    · rw [e, cond_false] at h
      have := ih _ h; omega
    · rw [e, cond_true] at h
      have := Option.some.inj h; omega
theorem backA_ge (R : List (List Nat)) (r : Nat) (f : Nat) : ∀ m n, backA R f m n = some r → n ≤ r := by
  induction f with
  | zero => intro m n h; have := Option.some.inj h; omega
  | succ f ih =>
    intro m n h
    rw [backA] at h
    cases e : backL (cntN R m) m n 20 n with
    | none => rw [e] at h; cases h
    | some n' =>
      rw [e] at h
      have := ih _ _ h
      have := backL_ge _ _ _ _ _ _ e
      omega
theorem ba_loop (R : List (List Nat)) (hR : ∀ l ∈ R, l.length < 8) (hl : R.length ≤ 100) (r : Nat) (hr : r < 100) (f : Nat) : ∀ (m n : Nat), backA R f m n = some r → m + f = 8 → 2 ≤ m →
    exF LP wash_Back.L1 [(5, .ptr 0 0 8), (6, .int .i64 (n : Int)), (7, .int .i64 (m : Int))] [⟨ints (ci (kindL R)), true⟩] = some (.exit 0, [(6, .int .i64 (r : Int))], [⟨ints (ci (kindL R)), true⟩]) := by
  have hK : (kindL R).length = 8 := by simp [kindL, kF_len]
  have hKb : ∀ x, nth (kindL R) x ≤ 100 := fun x => by
    by_cases c : x < 8
    · rw [kindL_at R hR x c]
      exact Nat.le_trans (List.length_filter_le _ _) hl
    · rw [nth_getD, List.getD_eq_getElem?_getD, List.getElem?_eq_none (by omega)]; simp
  induction f with
  | zero =>
    intro m n h hm _
    have h := Option.some.inj h
    subst h
    obtain rfl : m = 8 := by omega
    rw [wash_Back.L1_eq]
    simp only [wash_Back.B1, beqT, beqF, exF_seq, exF_region, exF_block, exF_cond, exF_ret, exF_exit, exF_skip, runL, wantL, stepL, evL, LEnv.at, putL, loadFine, loadL, cellsAt, Trk.putNew, Trk.up, Trk.touch, Trk.gives, Trk.calm, Trk.hit, opdsOf, Trk.fresh, LEnv.keep, LEnv.ofFrom, List.map_cons, List.map_nil, nbeq, nble, nblt, ofAV, ofAVs, lenL, bin_add, bin_sub, bin_mul, bin_eql, bin_neq, bin_lss, bin_leq, bin_gtr, bin_geq, natL_nat, natL_zero, natL_one, natL_two, Nat.zero_mul, List.any_cons, List.any_nil, Bool.or_false, Bool.false_or, Bool.true_or, Bool.or_true, Bool.and_true, Bool.true_and, Bool.and_false, Bool.false_and, Bool.not_true, Bool.not_false, Nat.reduceBEq, Nat.reduceEqDiff, decide_true, decide_false, cond_true, cond_false, List.filter_nil, List.filter_cons, Nat.reduceAdd, Nat.reduceLeDiff, reduceCtorEq, List.length_nil, List.length_cons, Nat.mul_one, if_true, if_false, Bool.false_eq_true, eq_self, and_true, true_and, retL, resultsL, resAllL, resOfL, List.append_nil, List.nil_append, List.cons_append, true_or, or_true, false_or, or_false, false_and, and_false, not_true_eq_false, not_false_eq_true, ne_eq, unL, trim_nil, views_pures, LV.pures, LV.pure, freeze, Nat.reduceDiv, Int.reduceEq, Int.reduceLT, Int.reduceLE, Int.natCast_zero, LV.cells, allocL, List.getElem?_cons_zero, List.getElem?_cons_succ, storeL, spliceL, List.take_zero, List.take_succ_cons, List.drop_zero, List.drop_succ_cons, List.drop_nil, List.take_nil, Nat.le_refl, Nat.reduceMul, List.set_cons_zero, List.set_cons_succ, LV.scalar, List.all_cons, List.all_nil, Nat.lt_add_one, Nat.zero_lt_one, Nat.reduceLT, Nat.lt_irrefl, fillL, List.length_append, foldIntL, kind_beq, pures_int, solids_int, plains_int, unders_int, scalars_int, show ¬ (((8 : Nat) : Int) < 8) by omega]
  | succ f ih =>
    intro m n h hm h2
    rw [backA] at h
    cases e : backL (cntN R m) m n 20 n with
    | none => rw [e] at h; cases h
    | some n' =>
      rw [e] at h
      simp only at h
      have hn1 := backA_ge R r _ _ _ h
      have hn2 := backL_ge _ _ _ _ _ _ e
      rw [cntN_eq, ← kindL_at R hR m (by omega)] at e
      have hb := bl_loop (kindL R) hK hKb m n n' (by omega) (by omega) 20 n e (by omega)
      have ih := ih (m + 1) n' h (by omega) (by omega)
      generalize kindL R = K at *
      rw [wash_Back.L1_eq]
      simp only [wash_Back.B1, beqT, beqF, exF_seq, exF_region, exF_block, exF_cond, exF_ret, exF_exit, exF_skip, runL, wantL, stepL, evL, LEnv.at, putL, loadFine, loadL, cellsAt, Trk.putNew, Trk.up, Trk.touch, Trk.gives, Trk.calm, Trk.hit, opdsOf, Trk.fresh, LEnv.keep, LEnv.ofFrom, List.map_cons, List.map_nil, nbeq, nble, nblt, ofAV, ofAVs, lenL, bin_add, bin_sub, bin_mul, bin_eql, bin_neq, bin_lss, bin_leq, bin_gtr, bin_geq, natL_nat, natL_zero, natL_one, natL_two, Nat.zero_mul, List.any_cons, List.any_nil, Bool.or_false, Bool.false_or, Bool.true_or, Bool.or_true, Bool.and_true, Bool.true_and, Bool.and_false, Bool.false_and, Bool.not_true, Bool.not_false, Nat.reduceBEq, Nat.reduceEqDiff, decide_true, decide_false, cond_true, cond_false, List.filter_nil, List.filter_cons, Nat.reduceAdd, Nat.reduceLeDiff, reduceCtorEq, List.length_nil, List.length_cons, Nat.mul_one, if_true, if_false, Bool.false_eq_true, eq_self, and_true, true_and, retL, resultsL, resAllL, resOfL, List.append_nil, List.nil_append, List.cons_append, true_or, or_true, false_or, or_false, false_and, and_false, not_true_eq_false, not_false_eq_true, ne_eq, unL, trim_nil, views_pures, LV.pures, LV.pure, freeze, Nat.reduceDiv, Int.reduceEq, Int.reduceLT, Int.reduceLE, Int.natCast_zero, LV.cells, allocL, List.getElem?_cons_zero, List.getElem?_cons_succ, storeL, spliceL, List.take_zero, List.take_succ_cons, List.drop_zero, List.drop_succ_cons, List.drop_nil, List.take_nil, Nat.le_refl, Nat.reduceMul, List.set_cons_zero, List.set_cons_succ, LV.scalar, List.all_cons, List.all_nil, Nat.lt_add_one, Nat.zero_lt_one, Nat.reduceLT, Nat.lt_irrefl, fillL, List.length_append, foldIntL, kind_beq, pures_int, solids_int, plains_int, unders_int, scalars_int, show ((m : Nat) : Int) < 8 by omega, hb, wrap_succ (show m + 1 < 9223372036854775808 by omega), ih]
/-- The kinds of a tide. -/
theorem kindK_c (nl ex : Bool) (sz : Nat) {t : List Nat} (D : Td t) {R : List (List Nat)} {n : Nat} (K : Known t R n) (m : LMem) : clF LP n_wash_kindOf [IL nl ex sz (ci t)] m = some (.P, .agg (ints (ci (kindL R))), m) :=
  kind_c nl ex sz t D.h7 D.lt7 R K.hp (by intro c; have := K.h0; rw [c] at this; simp at this) (fun l hl => (K.rows l hl).2.1) (by have := K.h8; omega) m
theorem kind8 (R : List (List Nat)) : (ints (ci (kindL R))).length = 8 := by simp [kindL, kF_len]
theorem backP_c (nl ex : Bool) {t : List Nat} (D : Td t) {R : List (List Nat)} {n : Nat} (K : Known t R n) (hc : chkT (ci t) = 0) (m : LMem) : clF LP n_wash_Back [IL nl ex 1 (ci t)] m = some (.P, .tup [.int .i64 (n : Int), .int .i64 0], m) := by
  have h7 := D.h7
  have hck := fun m => check_c nl ex 1 (ci t) (by rw [ci_len]; omega) m
  rw [hc] at hck
  have hk := fun m => kindK_c nl ex 1 D K m
  have hb := ba_loop R (fun l hl => (K.rows l hl).2.1) (by have := K.h8; omega) n K.n100 6 2 1 K.ba rfl (by omega)
  have h8 := kind8 R
  have hsc : (ints (ci (kindL R))).all LV.scalar = true := scalars_int _ _
  have hdr : (ints (ci (kindL R))).drop 8 = [] := List.drop_eq_nil_of_le (by omega)
  generalize ints (ci (kindL R)) = w at *
  simp only [show ((2 : Nat) : Int) = 2 from rfl, show ((1 : Nat) : Int) = 1 from rfl] at hb
  refine call_P lp_wash_Back rfl (by simp [LV.pures, LV.pure]) (m1 := [⟨w, true⟩]) ?_ (by simp [LV.pures, LV.pure]) m
  simp only [wash_Back, wash_Back.B, beqT, beqF, exF_seq, exF_region, exF_block, exF_cond, exF_ret, exF_exit, exF_skip, runL, wantL, stepL, evL, LEnv.at, putL, loadFine, loadL, cellsAt, Trk.putNew, Trk.up, Trk.touch, Trk.gives, Trk.calm, Trk.hit, opdsOf, Trk.fresh, LEnv.keep, LEnv.ofFrom, List.map_cons, List.map_nil, nbeq, nble, nblt, ofAV, ofAVs, lenL, bin_add, bin_sub, bin_mul, bin_eql, bin_neq, bin_lss, bin_leq, bin_gtr, bin_geq, natL_nat, natL_zero, natL_one, natL_two, Nat.zero_mul, List.any_cons, List.any_nil, Bool.or_false, Bool.false_or, Bool.true_or, Bool.or_true, Bool.and_true, Bool.true_and, Bool.and_false, Bool.false_and, Bool.not_true, Bool.not_false, Nat.reduceBEq, Nat.reduceEqDiff, decide_true, decide_false, cond_true, cond_false, List.filter_nil, List.filter_cons, Nat.reduceAdd, Nat.reduceLeDiff, reduceCtorEq, List.length_nil, List.length_cons, Nat.mul_one, if_true, if_false, Bool.false_eq_true, eq_self, and_true, true_and, retL, resultsL, resAllL, resOfL, List.append_nil, List.nil_append, List.cons_append, true_or, or_true, false_or, or_false, false_and, and_false, not_true_eq_false, not_false_eq_true, ne_eq, unL, trim_nil, views_pures, LV.pures, LV.pure, freeze, Nat.reduceDiv, Int.reduceEq, Int.reduceLT, Int.reduceLE, Int.natCast_zero, LV.cells, allocL, List.getElem?_cons_zero, List.getElem?_cons_succ, storeL, spliceL, List.take_zero, List.take_succ_cons, List.drop_zero, List.drop_succ_cons, List.drop_nil, List.take_nil, Nat.le_refl, Nat.reduceMul, List.set_cons_zero, List.set_cons_succ, LV.scalar, List.all_cons, List.all_nil, Nat.lt_add_one, Nat.zero_lt_one, Nat.reduceLT, Nat.lt_irrefl, fillL, List.length_append, foldIntL, kind_beq, pures_int, solids_int, plains_int, unders_int, scalars_int, hck, hk, h8, hsc, hdr, hb]
end Go.Am.Wash


/-
  What functions of chapter 13 compute, 6: where things are after some tides.
-/
set_option linter.unusedVariables false
set_option linter.unusedSimpArgs false
set_option maxRecDepth 10000
namespace Go.Am.Wash
open Go.Am.G

theorem tmod_bound (a : Int) (m : Nat) (hm : 0 < m) : -(m : Int) < a.tmod (m : Int) ∧ a.tmod (m : Int) < (m : Int) :=
  ⟨Int.lt_tmod_of_pos a (by omega), Int.tmod_lt_of_pos a (by omega)⟩
theorem after_inner (T : Int) (hT : -1000000000 ≤ T ∧ T ≤ 1000000000) (N : Nat) (l : List Nat) (hl0 : 0 < l.length) (hl8 : l.length < 8) (hx : ∀ x ∈ l, x < N) (w27 w28 w29 : LV) (n : Nat) : ∀ (i : Nat) (o : List Nat), i + n = l.length → o.length = N →
    exF LP wash_After.L0 [(1, .int .i64 T), (7, .sl 0 0 N N 0 1 N), (9, RLn l), (10, .int .i64 (l.length : Int)), (27, w27), (28, w28), (29, w29), (35, RLn l), (36, .int .i64 (l.length : Int)), (37, .int .i64 (i : Int))] [⟨ints (ci o), true⟩] =
      some (.exit 3, [(1, .int .i64 T), (7, .sl 0 0 N N 0 1 N), (27, w27), (28, w28), (29, w29)], [⟨ints (ci (aIn l T n i o)), true⟩]) := by
  induction n with
  | zero =>
    intro i o hi ho
    rw [wash_After.L0_eq]
    simp only [wash_After.B0, beqT, beqF, exF_seq, exF_region, exF_block, exF_cond, exF_ret, exF_exit, exF_skip, runL, wantL, stepL, evL, LEnv.at, putL, loadFine, loadL, cellsAt, Trk.putNew, Trk.up, Trk.touch, Trk.gives, Trk.calm, Trk.hit, opdsOf, Trk.fresh, LEnv.keep, LEnv.ofFrom, List.map_cons, List.map_nil, nbeq, nble, nblt, ofAV, ofAVs, lenL, bin_add, bin_sub, bin_mul, bin_eql, bin_neq, bin_lss, bin_leq, bin_gtr, bin_geq, natL_nat, natL_zero, natL_one, natL_two, Nat.zero_mul, List.any_cons, List.any_nil, Bool.or_false, Bool.false_or, Bool.true_or, Bool.or_true, Bool.and_true, Bool.true_and, Bool.and_false, Bool.false_and, Bool.not_true, Bool.not_false, Nat.reduceBEq, Nat.reduceEqDiff, decide_true, decide_false, cond_true, cond_false, List.filter_nil, List.filter_cons, Nat.reduceAdd, Nat.reduceLeDiff, reduceCtorEq, List.length_nil, List.length_cons, Nat.mul_one, if_true, if_false, Bool.false_eq_true, eq_self, and_true, true_and, retL, resultsL, resAllL, resOfL, List.append_nil, List.nil_append, List.cons_append, true_or, or_true, false_or, or_false, false_and, and_false, not_true_eq_false, not_false_eq_true, ne_eq, unL, trim_nil, views_pures, LV.pures, LV.pure, freeze, Nat.reduceDiv, Int.reduceEq, Int.reduceLT, Int.reduceLE, Int.natCast_zero, LV.cells, allocL, List.getElem?_cons_zero, List.getElem?_cons_succ, storeL, spliceL, List.take_zero, List.take_succ_cons, List.drop_zero, List.drop_succ_cons, List.drop_nil, List.take_nil, Nat.le_refl, Nat.reduceMul, List.set_cons_zero, List.set_cons_succ, LV.scalar, List.all_cons, List.all_nil, Nat.lt_add_one, Nat.zero_lt_one, Nat.reduceLT, Nat.lt_irrefl, fillL, List.length_append, foldIntL, kind_beq, pures_int, solids_int, plains_int, unders_int, scalars_int, show ¬ ((i : Int) < (l.length : Int)) by omega, aIn]
  | succ n ih =>
    intro i o hi ho
    have h2 : i < l.length := by omega
    have hp := hx _ (List.getElem_mem h2)
    have hne : ((l.length : Nat) : Int) ≠ 0 := by omega
    have hid : idxI i T l.length = ((i : Int) + T) % (l.length : Int) := tmod2 _ _ hl0
    obtain ⟨e, hee⟩ := Int.eq_ofNat_of_zero_le (show 0 ≤ ((i : Int) + T) % (l.length : Int) from Int.emod_nonneg _ hne)
    have hel : e < l.length := by have := Int.emod_lt_of_pos ((i : Int) + T) (show 0 < (l.length : Int) by omega); omega
    have htb := tmod_bound ((i : Int) + T) l.length hl0
    have hw1 : IntKind.i64.wrap ((i : Int) + T) = (i : Int) + T := wrap_in (by omega)
    have hw2 : IntKind.i64.wrap (((i : Int) + T).tmod (l.length : Int) + (l.length : Int)) = ((i : Int) + T).tmod (l.length : Int) + (l.length : Int) := wrap_in (by omega)
    have hw3 : (((i : Int) + T).tmod (l.length : Int) + (l.length : Int)).tmod (l.length : Int) = (e : Int) := by
      have : (((i : Int) + T).tmod (l.length : Int) + (l.length : Int)).tmod (l.length : Int) = idxI i T l.length := rfl
      rw [this, hid, hee]
    have ea : aIn l T (n + 1) i o = aIn l T n (i + 1) (o.set l[i] l[e]) := by
      rw [aIn, hid, hee, Int.toNat_natCast, nth_at l i h2, nth_at l e hel]
    have ih := ih (i + 1) (o.set l[i] l[e]) (by omega) (by simpa using ho)
    have hoc : (ints (ci o)).length = N := by simp [ho]
    have hst : (ints (ci o)).take l[i] ++ [.int .i64 ((l[e] : Nat) : Int)] ++ (ints (ci o)).drop (l[i] + 1) = ints (ci (o.set l[i] l[e])) := by
      have := set_int .i64 (ci o) l[i] ((l[e] : Nat) : Int) (by rw [ci_len]; omega)
      rw [ints, this]
      simp [List.map_set]
    have hRl : ∀ j (h : j < l.length), (ints (ci l))[j]? = some (.int .i64 ((l[j] : Nat) : Int)) := fun j h => by rw [ints, ci_map]; exact nat_at _ _ _ h
    rw [wash_After.L0_eq, ea]
    simp only [wash_After.B0, beqT, beqF, exF_seq, exF_region, exF_block, exF_cond, exF_ret, exF_exit, exF_skip, runL, wantL, stepL, evL, LEnv.at, putL, loadFine, loadL, cellsAt, Trk.putNew, Trk.up, Trk.touch, Trk.gives, Trk.calm, Trk.hit, opdsOf, Trk.fresh, LEnv.keep, LEnv.ofFrom, List.map_cons, List.map_nil, nbeq, nble, nblt, ofAV, ofAVs, lenL, bin_add, bin_sub, bin_mul, bin_eql, bin_neq, bin_lss, bin_leq, bin_gtr, bin_geq, natL_nat, natL_zero, natL_one, natL_two, Nat.zero_mul, List.any_cons, List.any_nil, Bool.or_false, Bool.false_or, Bool.true_or, Bool.or_true, Bool.and_true, Bool.true_and, Bool.and_false, Bool.false_and, Bool.not_true, Bool.not_false, Nat.reduceBEq, Nat.reduceEqDiff, decide_true, decide_false, cond_true, cond_false, List.filter_nil, List.filter_cons, Nat.reduceAdd, Nat.reduceLeDiff, reduceCtorEq, List.length_nil, List.length_cons, Nat.mul_one, if_true, if_false, Bool.false_eq_true, eq_self, and_true, true_and, retL, resultsL, resAllL, resOfL, List.append_nil, List.nil_append, List.cons_append, true_or, or_true, false_or, or_false, false_and, and_false, not_true_eq_false, not_false_eq_true, ne_eq, unL, trim_nil, views_pures, LV.pures, LV.pure, freeze, Nat.reduceDiv, Int.reduceEq, Int.reduceLT, Int.reduceLE, Int.natCast_zero, LV.cells, allocL, List.getElem?_cons_zero, List.getElem?_cons_succ, storeL, spliceL, List.take_zero, List.take_succ_cons, List.drop_zero, List.drop_succ_cons, List.drop_nil, List.take_nil, Nat.le_refl, Nat.reduceMul, List.set_cons_zero, List.set_cons_succ, LV.scalar, List.all_cons, List.all_nil, Nat.lt_add_one, Nat.zero_lt_one, Nat.reduceLT, Nat.lt_irrefl, fillL, List.length_append, foldIntL, kind_beq, pures_int, solids_int, plains_int, unders_int, scalars_int, ci_len, show ((i : Int) < (l.length : Int)) by omega, h2, hRl i h2, hw1, bin_rem _ _ _ hne, hw2, hw3, hel, hRl e hel, hp, Nat.zero_add, hoc, show l[i] + 1 ≤ N by omega, hst, wrap_succ (show i + 1 < 9223372036854775808 by omega), ih]
theorem after_outer (T : Int) (hT : -1000000000 ≤ T ∧ T ≤ 1000000000) (N : Nat) (a b : Bool) (R : List (List Nat)) (hR : ∀ l ∈ R, 0 < l.length ∧ l.length < 8 ∧ ∀ x ∈ l, x < N) (hlen : R.length ≤ 100) (n : Nat) : ∀ (k : Nat) (o : List Nat), k + n = R.length → o.length = N →
    exF LP wash_After.L1 [(1, .int .i64 T), (7, .sl 0 0 N N 0 1 N), (27, .lst a b 1 R.length (rowsL R)), (28, .int .i64 (R.length : Int)), (29, .int .i64 (k : Int))] [⟨ints (ci o), true⟩] =
      some (.exit 1, [(7, .sl 0 0 N N 0 1 N)], [⟨ints (ci (aOut T (R.drop k) o)), true⟩]) := by
  induction n with
  | zero =>
    intro k o hk ho
    rw [wash_After.L1_eq]
    simp only [wash_After.B1, beqT, beqF, exF_seq, exF_region, exF_block, exF_cond, exF_ret, exF_exit, exF_skip, runL, wantL, stepL, evL, LEnv.at, putL, loadFine, loadL, cellsAt, Trk.putNew, Trk.up, Trk.touch, Trk.gives, Trk.calm, Trk.hit, opdsOf, Trk.fresh, LEnv.keep, LEnv.ofFrom, List.map_cons, List.map_nil, nbeq, nble, nblt, ofAV, ofAVs, lenL, bin_add, bin_sub, bin_mul, bin_eql, bin_neq, bin_lss, bin_leq, bin_gtr, bin_geq, natL_nat, natL_zero, natL_one, natL_two, Nat.zero_mul, List.any_cons, List.any_nil, Bool.or_false, Bool.false_or, Bool.true_or, Bool.or_true, Bool.and_true, Bool.true_and, Bool.and_false, Bool.false_and, Bool.not_true, Bool.not_false, Nat.reduceBEq, Nat.reduceEqDiff, decide_true, decide_false, cond_true, cond_false, List.filter_nil, List.filter_cons, Nat.reduceAdd, Nat.reduceLeDiff, reduceCtorEq, List.length_nil, List.length_cons, Nat.mul_one, if_true, if_false, Bool.false_eq_true, eq_self, and_true, true_and, retL, resultsL, resAllL, resOfL, List.append_nil, List.nil_append, List.cons_append, true_or, or_true, false_or, or_false, false_and, and_false, not_true_eq_false, not_false_eq_true, ne_eq, unL, trim_nil, views_pures, LV.pures, LV.pure, freeze, Nat.reduceDiv, Int.reduceEq, Int.reduceLT, Int.reduceLE, Int.natCast_zero, LV.cells, allocL, List.getElem?_cons_zero, List.getElem?_cons_succ, storeL, spliceL, List.take_zero, List.take_succ_cons, List.drop_zero, List.drop_succ_cons, List.drop_nil, List.take_nil, Nat.le_refl, Nat.reduceMul, List.set_cons_zero, List.set_cons_succ, LV.scalar, List.all_cons, List.all_nil, Nat.lt_add_one, Nat.zero_lt_one, Nat.reduceLT, Nat.lt_irrefl, fillL, List.length_append, foldIntL, kind_beq, pures_int, solids_int, plains_int, unders_int, scalars_int, show ¬ ((k : Int) < (R.length : Int)) by omega, List.drop_eq_nil_of_le (show R.length ≤ k by omega), aOut]
  | succ n ih =>
    intro k o hk ho
    have h2 : k < R.length := by omega
    obtain ⟨r1, r2, r3⟩ := hR _ (List.getElem_mem h2)
    have hin := after_inner T hT N R[k] r1 r2 r3 (.lst a b 1 R.length (rowsL R)) (.int .i64 (R.length : Int)) (.int .i64 (k : Int)) R[k].length 0 o (by omega) ho
    simp only [Int.natCast_zero] at hin
    have ih := ih (k + 1) (aIn R[k] T R[k].length 0 o) (by omega) (by rw [aIn_len, ho])
    rw [wash_After.L1_eq, List.drop_eq_getElem_cons h2, aOut]
    simp only [wash_After.B1, beqT, beqF, exF_seq, exF_region, exF_block, exF_cond, exF_ret, exF_exit, exF_skip, runL, wantL, stepL, evL, LEnv.at, putL, loadFine, loadL, cellsAt, Trk.putNew, Trk.up, Trk.touch, Trk.gives, Trk.calm, Trk.hit, opdsOf, Trk.fresh, LEnv.keep, LEnv.ofFrom, List.map_cons, List.map_nil, nbeq, nble, nblt, ofAV, ofAVs, lenL, bin_add, bin_sub, bin_mul, bin_eql, bin_neq, bin_lss, bin_leq, bin_gtr, bin_geq, natL_nat, natL_zero, natL_one, natL_two, Nat.zero_mul, List.any_cons, List.any_nil, Bool.or_false, Bool.false_or, Bool.true_or, Bool.or_true, Bool.and_true, Bool.true_and, Bool.and_false, Bool.false_and, Bool.not_true, Bool.not_false, Nat.reduceBEq, Nat.reduceEqDiff, decide_true, decide_false, cond_true, cond_false, List.filter_nil, List.filter_cons, Nat.reduceAdd, Nat.reduceLeDiff, reduceCtorEq, List.length_nil, List.length_cons, Nat.mul_one, if_true, if_false, Bool.false_eq_true, eq_self, and_true, true_and, retL, resultsL, resAllL, resOfL, List.append_nil, List.nil_append, List.cons_append, true_or, or_true, false_or, or_false, false_and, and_false, not_true_eq_false, not_false_eq_true, ne_eq, unL, trim_nil, views_pures, LV.pures, LV.pure, freeze, Nat.reduceDiv, Int.reduceEq, Int.reduceLT, Int.reduceLE, Int.natCast_zero, LV.cells, allocL, List.getElem?_cons_zero, List.getElem?_cons_succ, storeL, spliceL, List.take_zero, List.take_succ_cons, List.drop_zero, List.drop_succ_cons, List.drop_nil, List.take_nil, Nat.le_refl, Nat.reduceMul, List.set_cons_zero, List.set_cons_succ, LV.scalar, List.all_cons, List.all_nil, Nat.lt_add_one, Nat.zero_lt_one, Nat.reduceLT, Nat.lt_irrefl, fillL, List.length_append, foldIntL, kind_beq, pures_int, solids_int, plains_int, unders_int, scalars_int, ci_len, show ((k : Int) < (R.length : Int)) by omega, h2, rowsL_at _ _ h2, hin, wrap_succ (show k + 1 < 9223372036854775808 by omega), ih]
theorem afterP_c (nl ex : Bool) {t : List Nat} (D : Td t) {R : List (List Nat)} {n : Nat} (K : Known t R n) (hc : chkT (ci t) = 0) (T : Int) (hT : inB (-1000000000) 1000000000 T = true) : ∃ a b, ∀ m, clF LP n_wash_After [IL nl ex 1 (ci t), .int .i64 T] m = some (.P, .tup [IL a b 1 (ci (aftV t (T % (n : Int)).toNat)), .int .i64 0], m) := by
  have h7 := D.h7
  have hT' : -1000000000 ≤ T ∧ T ≤ 1000000000 := by simpa [inB] using hT
  have hck := fun m => check_c nl ex 1 (ci t) (by rw [ci_len]; omega) m
  rw [hc] at hck
  obtain ⟨a, b, hr⟩ := rings_c nl ex 1 t h7 D.lt7 R K.hp (by intro c; have := K.h0; rw [c] at this; simp at this)
  have ho := after_outer T hT' t.length a b R (fun l hl => ⟨(K.rows l hl).1, (K.rows l hl).2.1, (K.rows l hl).2.2.2⟩) (by have := K.h8; omega) R.length 0 (List.replicate t.length 0) (by omega) (by simp)
  rw [List.drop_zero, aft_prog K T] at ho
  simp only [Int.natCast_zero] at ho
  have hz : zerosL [.int .i64 0] t.length = ints (ci (List.replicate t.length 0)) := by rw [zeros_int]; simp
  have r1 : t.length * 8 ≤ roomMost := by unfold roomMost; omega
  have r2 : t.length ≤ roomMost := by unfold roomMost; omega
  have hal : (aftV t (T % (n : Int)).toNat).length = t.length := by simp [aftV]
  generalize aftV t (T % (n : Int)).toNat = w at *
  have hv : view 40 [⟨ints (ci w), true⟩] (.tup [.sl 0 0 t.length t.length 0 1 t.length, .int .i64 0]) = some (.tup [IL false true 1 (ci w), .int .i64 0], [0]) := by
    refine view_tup2 _ _ _ _ _ (fun k => ?_) rfl (by simp [LV.pures, LV.pure])
    have := view_sl k [⟨ints (ci w), true⟩] 0 0 t.length t.length 0 (ci w) true rfl (by rw [ci_len]; exact hal) (by omega) t.length (by omega)
    rw [List.drop_zero, List.take_of_length_le (by rw [ci_len]; omega)] at this
    rw [this]
    simp [nbeq]
  refine ⟨false, true, fun m => call_Pv lp_wash_After rfl (by simp [LV.pures, LV.pure]) ?_ hv m⟩
  simp only [wash_After, wash_After.B, beqT, beqF, exF_seq, exF_region, exF_block, exF_cond, exF_ret, exF_exit, exF_skip, runL, wantL, stepL, evL, LEnv.at, putL, loadFine, loadL, cellsAt, Trk.putNew, Trk.up, Trk.touch, Trk.gives, Trk.calm, Trk.hit, opdsOf, Trk.fresh, LEnv.keep, LEnv.ofFrom, List.map_cons, List.map_nil, nbeq, nble, nblt, ofAV, ofAVs, lenL, bin_add, bin_sub, bin_mul, bin_eql, bin_neq, bin_lss, bin_leq, bin_gtr, bin_geq, natL_nat, natL_zero, natL_one, natL_two, Nat.zero_mul, List.any_cons, List.any_nil, Bool.or_false, Bool.false_or, Bool.true_or, Bool.or_true, Bool.and_true, Bool.true_and, Bool.and_false, Bool.false_and, Bool.not_true, Bool.not_false, Nat.reduceBEq, Nat.reduceEqDiff, decide_true, decide_false, cond_true, cond_false, List.filter_nil, List.filter_cons, Nat.reduceAdd, Nat.reduceLeDiff, reduceCtorEq, List.length_nil, List.length_cons, Nat.mul_one, if_true, if_false, Bool.false_eq_true, eq_self, and_true, true_and, retL, resultsL, resAllL, resOfL, List.append_nil, List.nil_append, List.cons_append, true_or, or_true, false_or, or_false, false_and, and_false, not_true_eq_false, not_false_eq_true, ne_eq, unL, trim_nil, views_pures, LV.pures, LV.pure, freeze, Nat.reduceDiv, Int.reduceEq, Int.reduceLT, Int.reduceLE, Int.natCast_zero, LV.cells, allocL, List.getElem?_cons_zero, List.getElem?_cons_succ, storeL, spliceL, List.take_zero, List.take_succ_cons, List.drop_zero, List.drop_succ_cons, List.drop_nil, List.take_nil, Nat.le_refl, Nat.reduceMul, List.set_cons_zero, List.set_cons_succ, LV.scalar, List.all_cons, List.all_nil, Nat.lt_add_one, Nat.zero_lt_one, Nat.reduceLT, Nat.lt_irrefl, fillL, List.length_append, foldIntL, kind_beq, pures_int, solids_int, plains_int, unders_int, scalars_int, ci_len, hck, within_c, hT, hr, r1, r2, hz, ho]
end Go.Am.Wash


/-
  The examples of the chapter hold: the list machine's runs, evaluated by the kernel.
-/
set_option linter.unusedVariables false
set_option linter.unusedSimpArgs false
set_option maxRecDepth 100000
set_option maxHeartbeats 1000000
namespace Go.Am.Wash
open Go.Am.G
theorem run0 : callL LP 3000 n_law13_A [] [] = some (.P, .lst false true 1 5 [.int .i64 1, .int .i64 2, .int .i64 0, .int .i64 4, .int .i64 3], []) := by kernel_rfl
theorem ran0 (m : LMem) : clF LP n_law13_A [] m = some (.P, .lst false true 1 5 [.int .i64 1, .int .i64 2, .int .i64 0, .int .i64 4, .int .i64 3], m) := call_ran lp_law13_A rfl rfl run0 m
theorem run1 : callL LP 3000 n_law13_B [] [] = some (.P, .lst false true 1 4 [.int .i64 1, .int .i64 0, .int .i64 3, .int .i64 2], []) := by kernel_rfl
theorem ran1 (m : LMem) : clF LP n_law13_B [] m = some (.P, .lst false true 1 4 [.int .i64 1, .int .i64 0, .int .i64 3, .int .i64 2], m) := call_ran lp_law13_B rfl rfl run1 m
theorem run2 : callL LP 3000 n_law13_C [] [] = some (.P, .lst false true 1 3 [.int .i64 1, .int .i64 2, .int .i64 0], []) := by kernel_rfl
theorem ran2 (m : LMem) : clF LP n_law13_C [] m = some (.P, .lst false true 1 3 [.int .i64 1, .int .i64 2, .int .i64 0], m) := call_ran lp_law13_C rfl rfl run2 m
theorem run3 : callL LP 3000 n_wash_After [.lst false true 1 5 [.int .i64 1, .int .i64 2, .int .i64 0, .int .i64 4, .int .i64 3], .int .i64 (-1)] [] = some (.P, .tup [.lst false true 1 5 [.int .i64 2, .int .i64 0, .int .i64 1, .int .i64 4, .int .i64 3], .int .i64 0], []) := by kernel_rfl
theorem ran3 (m : LMem) : clF LP n_wash_After [.lst false true 1 5 [.int .i64 1, .int .i64 2, .int .i64 0, .int .i64 4, .int .i64 3], .int .i64 (-1)] m = some (.P, .tup [.lst false true 1 5 [.int .i64 2, .int .i64 0, .int .i64 1, .int .i64 4, .int .i64 3], .int .i64 0], m) := call_ran lp_wash_After rfl rfl run3 m
theorem run4 : callL LP 3000 n_wash_Rings [.lst false true 1 5 [.int .i64 1, .int .i64 2, .int .i64 0, .int .i64 4, .int .i64 3]] [] = some (.P, .tup [.lst false false 1 2 [.lst false false 1 3 [.int .i64 0, .int .i64 1, .int .i64 2], .lst false false 1 2 [.int .i64 3, .int .i64 4]], .int .i64 0], []) := by kernel_rfl
theorem ran4 (m : LMem) : clF LP n_wash_Rings [.lst false true 1 5 [.int .i64 1, .int .i64 2, .int .i64 0, .int .i64 4, .int .i64 3]] m = some (.P, .tup [.lst false false 1 2 [.lst false false 1 3 [.int .i64 0, .int .i64 1, .int .i64 2], .lst false false 1 2 [.int .i64 3, .int .i64 4]], .int .i64 0], m) := call_ran lp_wash_Rings rfl rfl run4 m
theorem run5 : callL LP 3000 n_wash_Back [.lst false true 1 5 [.int .i64 1, .int .i64 2, .int .i64 0, .int .i64 4, .int .i64 3]] [] = some (.P, .tup [.int .i64 6, .int .i64 0], []) := by kernel_rfl
theorem ran5 (m : LMem) : clF LP n_wash_Back [.lst false true 1 5 [.int .i64 1, .int .i64 2, .int .i64 0, .int .i64 4, .int .i64 3]] m = some (.P, .tup [.int .i64 6, .int .i64 0], m) := call_ran lp_wash_Back rfl rfl run5 m
theorem run6 : callL LP 3000 n_wash_When [.lst false true 1 5 [.int .i64 1, .int .i64 2, .int .i64 0, .int .i64 4, .int .i64 3], .int .i64 0, .int .i64 2] [] = some (.P, .tup [.int .i64 2, .int .i64 0], []) := by kernel_rfl
theorem ran6 (m : LMem) : clF LP n_wash_When [.lst false true 1 5 [.int .i64 1, .int .i64 2, .int .i64 0, .int .i64 4, .int .i64 3], .int .i64 0, .int .i64 2] m = some (.P, .tup [.int .i64 2, .int .i64 0], m) := call_ran lp_wash_When rfl rfl run6 m
theorem run7 : callL LP 3000 n_wash_Then [.lst false true 1 3 [.int .i64 1, .int .i64 2, .int .i64 0], .lst false true 1 3 [.int .i64 1, .int .i64 0, .int .i64 2]] [] = some (.P, .tup [.lst false false 1 3 [.int .i64 0, .int .i64 2, .int .i64 1], .int .i64 0], []) := by kernel_rfl
theorem ran7 (m : LMem) : clF LP n_wash_Then [.lst false true 1 3 [.int .i64 1, .int .i64 2, .int .i64 0], .lst false true 1 3 [.int .i64 1, .int .i64 0, .int .i64 2]] m = some (.P, .tup [.lst false false 1 3 [.int .i64 0, .int .i64 2, .int .i64 1], .int .i64 0], m) := call_ran lp_wash_Then rfl rfl run7 m
theorem run8 : callL LP 3000 n_wash_Named [.lst false true 1 3 [.int .i64 1, .int .i64 2, .int .i64 0], .lst false true 1 3 [.int .i64 2, .int .i64 1, .int .i64 0]] [] = some (.P, .tup [.lst false false 1 3 [.int .i64 2, .int .i64 0, .int .i64 1], .int .i64 0], []) := by kernel_rfl
theorem ran8 (m : LMem) : clF LP n_wash_Named [.lst false true 1 3 [.int .i64 1, .int .i64 2, .int .i64 0], .lst false true 1 3 [.int .i64 2, .int .i64 1, .int .i64 0]] m = some (.P, .tup [.lst false false 1 3 [.int .i64 2, .int .i64 0, .int .i64 1], .int .i64 0], m) := call_ran lp_wash_Named rfl rfl run8 m
theorem run9 : callL LP 3000 n_wash_Odd [.lst false true 1 5 [.int .i64 1, .int .i64 2, .int .i64 0, .int .i64 4, .int .i64 3]] [] = some (.P, .tup [.bool true, .int .i64 0], []) := by kernel_rfl
theorem ran9 (m : LMem) : clF LP n_wash_Odd [.lst false true 1 5 [.int .i64 1, .int .i64 2, .int .i64 0, .int .i64 4, .int .i64 3]] m = some (.P, .tup [.bool true, .int .i64 0], m) := call_ran lp_wash_Odd rfl rfl run9 m
theorem run10 : callL LP 3000 n_wash_Half [.lst false true 1 4 [.int .i64 1, .int .i64 0, .int .i64 3, .int .i64 2]] [] = some (.P, .tup [.lst false true 1 4 [.int .i64 2, .int .i64 3, .int .i64 1, .int .i64 0], .int .i64 0], []) := by kernel_rfl
theorem ran10 (m : LMem) : clF LP n_wash_Half [.lst false true 1 4 [.int .i64 1, .int .i64 0, .int .i64 3, .int .i64 2]] m = some (.P, .tup [.lst false true 1 4 [.int .i64 2, .int .i64 3, .int .i64 1, .int .i64 0], .int .i64 0], m) := call_ran lp_wash_Half rfl rfl run10 m
theorem run11 : callL LP 3000 n_wash_Halves [.lst false true 1 4 [.int .i64 1, .int .i64 0, .int .i64 3, .int .i64 2]] [] = some (.P, .tup [.int .i64 2, .int .i64 0], []) := by kernel_rfl
theorem ran11 (m : LMem) : clF LP n_wash_Halves [.lst false true 1 4 [.int .i64 1, .int .i64 0, .int .i64 3, .int .i64 2]] m = some (.P, .tup [.int .i64 2, .int .i64 0], m) := call_ran lp_wash_Halves rfl rfl run11 m
theorem run12 : callL LP 3000 n_wash_Why [.lst false true 1 5 [.int .i64 1, .int .i64 2, .int .i64 0, .int .i64 4, .int .i64 3]] [] = some (.P, .tup [.int .i64 2, .int .i64 0], []) := by kernel_rfl
theorem ran12 (m : LMem) : clF LP n_wash_Why [.lst false true 1 5 [.int .i64 1, .int .i64 2, .int .i64 0, .int .i64 4, .int .i64 3]] m = some (.P, .tup [.int .i64 2, .int .i64 0], m) := call_ran lp_wash_Why rfl rfl run12 m
theorem run13 : callL LP 3000 n_wash_Alike [.lst false true 1 5 [.int .i64 1, .int .i64 2, .int .i64 0, .int .i64 4, .int .i64 3], .lst false true 1 5 [.int .i64 1, .int .i64 0, .int .i64 3, .int .i64 4, .int .i64 2]] [] = some (.P, .tup [.bool true, .int .i64 0], []) := by kernel_rfl
theorem ran13 (m : LMem) : clF LP n_wash_Alike [.lst false true 1 5 [.int .i64 1, .int .i64 2, .int .i64 0, .int .i64 4, .int .i64 3], .lst false true 1 5 [.int .i64 1, .int .i64 0, .int .i64 3, .int .i64 4, .int .i64 2]] m = some (.P, .tup [.bool true, .int .i64 0], m) := call_ran lp_wash_Alike rfl rfl run13 m
theorem run14 : callL LP 3000 n_wash_Exchange [.lst false true 1 4 [.int .i64 1, .int .i64 0, .int .i64 3, .int .i64 2], .lst false true 1 4 [.int .i64 2, .int .i64 3, .int .i64 0, .int .i64 1]] [] = some (.P, .tup [.bool true, .int .i64 0], []) := by kernel_rfl
theorem ran14 (m : LMem) : clF LP n_wash_Exchange [.lst false true 1 4 [.int .i64 1, .int .i64 0, .int .i64 3, .int .i64 2], .lst false true 1 4 [.int .i64 2, .int .i64 3, .int .i64 0, .int .i64 1]] m = some (.P, .tup [.bool true, .int .i64 0], m) := call_ran lp_wash_Exchange rfl rfl run14 m
theorem run15 : callL LP 3000 n_wash_Friends [.lst false true 1 4 [.int .i64 1, .int .i64 0, .int .i64 3, .int .i64 2]] [] = some (.P, .tup [.int .i64 8, .int .i64 0], []) := by kernel_rfl
theorem ran15 (m : LMem) : clF LP n_wash_Friends [.lst false true 1 4 [.int .i64 1, .int .i64 0, .int .i64 3, .int .i64 2]] m = some (.P, .tup [.int .i64 8, .int .i64 0], m) := call_ran lp_wash_Friends rfl rfl run15 m
theorem run16 : callL LP 3000 n_wash_Half [.lst false true 1 5 [.int .i64 1, .int .i64 2, .int .i64 0, .int .i64 4, .int .i64 3]] [] = some (.P, .tup [.lst true true 0 0 [], .int .i64 12], []) := by kernel_rfl
theorem ran16 (m : LMem) : clF LP n_wash_Half [.lst false true 1 5 [.int .i64 1, .int .i64 2, .int .i64 0, .int .i64 4, .int .i64 3]] m = some (.P, .tup [.lst true true 0 0 [], .int .i64 12], m) := call_ran lp_wash_Half rfl rfl run16 m
theorem run17 : callL LP 3000 n_wash_When [.lst false true 1 5 [.int .i64 1, .int .i64 2, .int .i64 0, .int .i64 4, .int .i64 3], .int .i64 0, .int .i64 3] [] = some (.P, .tup [.int .i64 0, .int .i64 12], []) := by kernel_rfl
theorem ran17 (m : LMem) : clF LP n_wash_When [.lst false true 1 5 [.int .i64 1, .int .i64 2, .int .i64 0, .int .i64 4, .int .i64 3], .int .i64 0, .int .i64 3] m = some (.P, .tup [.int .i64 0, .int .i64 12], m) := call_ran lp_wash_When rfl rfl run17 m
theorem run18 : callL LP 3000 n_wash_Proves [.lst false true 1 5 [.int .i64 1, .int .i64 2, .int .i64 0, .int .i64 4, .int .i64 3], .int .i64 2] [] = some (.P, .int .i64 0, []) := by kernel_rfl
theorem ran18 (m : LMem) : clF LP n_wash_Proves [.lst false true 1 5 [.int .i64 1, .int .i64 2, .int .i64 0, .int .i64 4, .int .i64 3], .int .i64 2] m = some (.P, .int .i64 0, m) := call_ran lp_wash_Proves rfl rfl run18 m
theorem run19 : callL LP 3000 n_wash_Proves [.lst false true 1 5 [.int .i64 1, .int .i64 2, .int .i64 0, .int .i64 4, .int .i64 3], .int .i64 3] [] = some (.P, .int .i64 14, []) := by kernel_rfl
theorem ran19 (m : LMem) : clF LP n_wash_Proves [.lst false true 1 5 [.int .i64 1, .int .i64 2, .int .i64 0, .int .i64 4, .int .i64 3], .int .i64 3] m = some (.P, .int .i64 14, m) := call_ran lp_wash_Proves rfl rfl run19 m
theorem run20 : callL LP 3000 n_law13_same [.lst false true 1 5 [.int .i64 2, .int .i64 0, .int .i64 1, .int .i64 4, .int .i64 3], .lst false true 1 5 [.int .i64 2, .int .i64 0, .int .i64 1, .int .i64 4, .int .i64 3]] [] = some (.P, .bool true, []) := by kernel_rfl
theorem ran20 (m : LMem) : clF LP n_law13_same [.lst false true 1 5 [.int .i64 2, .int .i64 0, .int .i64 1, .int .i64 4, .int .i64 3], .lst false true 1 5 [.int .i64 2, .int .i64 0, .int .i64 1, .int .i64 4, .int .i64 3]] m = some (.P, .bool true, m) := call_ran lp_law13_same rfl rfl run20 m
theorem run21 : callL LP 3000 n_law13_same [.lst false false 1 3 [.int .i64 0, .int .i64 2, .int .i64 1], .lst false true 1 3 [.int .i64 0, .int .i64 2, .int .i64 1]] [] = some (.P, .bool true, []) := by kernel_rfl
theorem ran21 (m : LMem) : clF LP n_law13_same [.lst false false 1 3 [.int .i64 0, .int .i64 2, .int .i64 1], .lst false true 1 3 [.int .i64 0, .int .i64 2, .int .i64 1]] m = some (.P, .bool true, m) := call_ran lp_law13_same rfl rfl run21 m
theorem run22 : callL LP 3000 n_law13_same [.lst false false 1 3 [.int .i64 2, .int .i64 0, .int .i64 1], .lst false true 1 3 [.int .i64 2, .int .i64 0, .int .i64 1]] [] = some (.P, .bool true, []) := by kernel_rfl
theorem ran22 (m : LMem) : clF LP n_law13_same [.lst false false 1 3 [.int .i64 2, .int .i64 0, .int .i64 1], .lst false true 1 3 [.int .i64 2, .int .i64 0, .int .i64 1]] m = some (.P, .bool true, m) := call_ran lp_law13_same rfl rfl run22 m
theorem run23 : callL LP 3000 n_law13_same [.lst false true 1 4 [.int .i64 2, .int .i64 3, .int .i64 1, .int .i64 0], .lst false true 1 4 [.int .i64 2, .int .i64 3, .int .i64 1, .int .i64 0]] [] = some (.P, .bool true, []) := by kernel_rfl
theorem ran23 (m : LMem) : clF LP n_law13_same [.lst false true 1 4 [.int .i64 2, .int .i64 3, .int .i64 1, .int .i64 0], .lst false true 1 4 [.int .i64 2, .int .i64 3, .int .i64 1, .int .i64 0]] m = some (.P, .bool true, m) := call_ran lp_law13_same rfl rfl run23 m
theorem run24 : callL LP 3000 n_law13_lists [.lst false false 1 2 [.lst false false 1 3 [.int .i64 0, .int .i64 1, .int .i64 2], .lst false false 1 2 [.int .i64 3, .int .i64 4]], .lst false true 1 2 [.lst false true 1 3 [.int .i64 0, .int .i64 1, .int .i64 2], .lst false true 1 2 [.int .i64 3, .int .i64 4]]] [] = some (.P, .bool true, []) := by kernel_rfl
theorem ran24 (m : LMem) : clF LP n_law13_lists [.lst false false 1 2 [.lst false false 1 3 [.int .i64 0, .int .i64 1, .int .i64 2], .lst false false 1 2 [.int .i64 3, .int .i64 4]], .lst false true 1 2 [.lst false true 1 3 [.int .i64 0, .int .i64 1, .int .i64 2], .lst false true 1 2 [.int .i64 3, .int .i64 4]]] m = some (.P, .bool true, m) := call_ran lp_law13_lists rfl rfl run24 m
theorem run25 : callL LP 3000 n_law13_list [.lst false true 1 3 [.int .i64 1, .int .i64 0, .int .i64 2]] [] = some (.P, .lst false true 1 3 [.int .i64 1, .int .i64 0, .int .i64 2], []) := by kernel_rfl
theorem ran25 (m : LMem) : clF LP n_law13_list [.lst false true 1 3 [.int .i64 1, .int .i64 0, .int .i64 2]] m = some (.P, .lst false true 1 3 [.int .i64 1, .int .i64 0, .int .i64 2], m) := call_ran lp_law13_list rfl rfl run25 m
theorem run26 : callL LP 3000 n_law13_list [.lst false true 1 3 [.int .i64 2, .int .i64 1, .int .i64 0]] [] = some (.P, .lst false true 1 3 [.int .i64 2, .int .i64 1, .int .i64 0], []) := by kernel_rfl
theorem ran26 (m : LMem) : clF LP n_law13_list [.lst false true 1 3 [.int .i64 2, .int .i64 1, .int .i64 0]] m = some (.P, .lst false true 1 3 [.int .i64 2, .int .i64 1, .int .i64 0], m) := call_ran lp_law13_list rfl rfl run26 m
theorem run27 : callL LP 3000 n_law13_list [.lst false true 1 5 [.int .i64 1, .int .i64 0, .int .i64 3, .int .i64 4, .int .i64 2]] [] = some (.P, .lst false true 1 5 [.int .i64 1, .int .i64 0, .int .i64 3, .int .i64 4, .int .i64 2], []) := by kernel_rfl
theorem ran27 (m : LMem) : clF LP n_law13_list [.lst false true 1 5 [.int .i64 1, .int .i64 0, .int .i64 3, .int .i64 4, .int .i64 2]] m = some (.P, .lst false true 1 5 [.int .i64 1, .int .i64 0, .int .i64 3, .int .i64 4, .int .i64 2], m) := call_ran lp_law13_list rfl rfl run27 m
theorem run28 : callL LP 3000 n_law13_list [.lst false true 1 4 [.int .i64 2, .int .i64 3, .int .i64 0, .int .i64 1]] [] = some (.P, .lst false true 1 4 [.int .i64 2, .int .i64 3, .int .i64 0, .int .i64 1], []) := by kernel_rfl
theorem ran28 (m : LMem) : clF LP n_law13_list [.lst false true 1 4 [.int .i64 2, .int .i64 3, .int .i64 0, .int .i64 1]] m = some (.P, .lst false true 1 4 [.int .i64 2, .int .i64 3, .int .i64 0, .int .i64 1], m) := call_ran lp_law13_list rfl rfl run28 m
theorem run29 : callL LP 3000 n_law13_list [.lst false true 1 5 [.int .i64 2, .int .i64 0, .int .i64 1, .int .i64 4, .int .i64 3]] [] = some (.P, .lst false true 1 5 [.int .i64 2, .int .i64 0, .int .i64 1, .int .i64 4, .int .i64 3], []) := by kernel_rfl
theorem ran29 (m : LMem) : clF LP n_law13_list [.lst false true 1 5 [.int .i64 2, .int .i64 0, .int .i64 1, .int .i64 4, .int .i64 3]] m = some (.P, .lst false true 1 5 [.int .i64 2, .int .i64 0, .int .i64 1, .int .i64 4, .int .i64 3], m) := call_ran lp_law13_list rfl rfl run29 m
theorem run30 : callL LP 3000 n_law13_list [.lst false true 1 3 [.int .i64 0, .int .i64 2, .int .i64 1]] [] = some (.P, .lst false true 1 3 [.int .i64 0, .int .i64 2, .int .i64 1], []) := by kernel_rfl
theorem ran30 (m : LMem) : clF LP n_law13_list [.lst false true 1 3 [.int .i64 0, .int .i64 2, .int .i64 1]] m = some (.P, .lst false true 1 3 [.int .i64 0, .int .i64 2, .int .i64 1], m) := call_ran lp_law13_list rfl rfl run30 m
theorem run31 : callL LP 3000 n_law13_list [.lst false true 1 3 [.int .i64 2, .int .i64 0, .int .i64 1]] [] = some (.P, .lst false true 1 3 [.int .i64 2, .int .i64 0, .int .i64 1], []) := by kernel_rfl
theorem ran31 (m : LMem) : clF LP n_law13_list [.lst false true 1 3 [.int .i64 2, .int .i64 0, .int .i64 1]] m = some (.P, .lst false true 1 3 [.int .i64 2, .int .i64 0, .int .i64 1], m) := call_ran lp_law13_list rfl rfl run31 m
theorem run32 : callL LP 3000 n_law13_list [.lst false true 1 4 [.int .i64 2, .int .i64 3, .int .i64 1, .int .i64 0]] [] = some (.P, .lst false true 1 4 [.int .i64 2, .int .i64 3, .int .i64 1, .int .i64 0], []) := by kernel_rfl
theorem ran32 (m : LMem) : clF LP n_law13_list [.lst false true 1 4 [.int .i64 2, .int .i64 3, .int .i64 1, .int .i64 0]] m = some (.P, .lst false true 1 4 [.int .i64 2, .int .i64 3, .int .i64 1, .int .i64 0], m) := call_ran lp_law13_list rfl rfl run32 m
theorem works_c (m : LMem) : clF LP n_law13_works [] m = some (.P, .bool true, m) := by
  refine call_P lp_law13_works rfl rfl (m1 := []) ?_ rfl m
  simp only [law13_works, law13_works.B]
  repeat (rw [exF_seq]; try simp only [beqT, beqF, exF_region, exF_block, exF_cond, exF_ret, exF_exit, exF_skip, runL, wantL, stepL, evL, LEnv.at, putL, loadFine, loadL, cellsAt, Trk.putNew, Trk.up, Trk.touch, Trk.gives, Trk.calm, Trk.hit, opdsOf, Trk.fresh, LEnv.keep, LEnv.ofFrom, List.map_cons, List.map_nil, nbeq, nble, nblt, ofAV, ofAVs, lenL, bin_add, bin_sub, bin_mul, bin_eql, bin_neq, bin_lss, bin_leq, bin_gtr, bin_geq, natL_nat, natL_zero, natL_one, natL_two, Nat.zero_mul, List.any_cons, List.any_nil, Bool.or_false, Bool.false_or, Bool.true_or, Bool.or_true, Bool.and_true, Bool.true_and, Bool.and_false, Bool.false_and, Bool.not_true, Bool.not_false, Nat.reduceBEq, Nat.reduceEqDiff, decide_true, decide_false, cond_true, cond_false, List.filter_nil, List.filter_cons, Nat.reduceAdd, Nat.reduceLeDiff, reduceCtorEq, List.length_nil, List.length_cons, Nat.mul_one, if_true, if_false, Bool.false_eq_true, eq_self, and_true, true_and, retL, resultsL, resAllL, resOfL, List.append_nil, List.nil_append, List.cons_append, true_or, or_true, false_or, or_false, false_and, and_false, not_true_eq_false, not_false_eq_true, ne_eq, unL, trim_nil, views_pures, LV.pures, LV.pure, freeze, Nat.reduceDiv, Int.reduceEq, Int.reduceLT, Int.reduceLE, Int.natCast_zero, LV.cells, allocL, List.getElem?_cons_zero, List.getElem?_cons_succ, storeL, spliceL, List.take_zero, List.take_succ_cons, List.drop_zero, List.drop_succ_cons, List.drop_nil, List.take_nil, Nat.le_refl, Nat.reduceMul, List.set_cons_zero, List.set_cons_succ, LV.scalar, List.all_cons, List.all_nil, Nat.lt_add_one, Nat.zero_lt_one, Nat.reduceLT, Nat.lt_irrefl, fillL, List.length_append, foldIntL, kind_beq, pures_int, solids_int, plains_int, unders_int, scalars_int, ran0, ran1, ran2, ran3, ran4, ran5, ran6, ran7, ran8, ran9, ran10, ran11, ran12, ran13, ran14, ran15, ran16, ran17, ran18, ran19, ran20, ran21, ran22, ran23, ran24, ran25, ran26, ran27, ran28, ran29, ran30, ran31, ran32])
end Go.Am.Wash


/-
  The law 'WashMoves' over the list machine.
-/
set_option linter.unusedVariables false
set_option linter.unusedSimpArgs false
set_option maxRecDepth 10000
namespace Go.Am.Wash
open Go.Am.G

/-! ### Rings -/
theorem ringsP_ok (nl ex : Bool) {t : List Nat} (D : Td t) {R : List (List Nat)} {n : Nat} (K : Known t R n) (hc : chkT (ci t) = 0) : ∃ a b, ∀ m, clF LP n_wash_Rings [IL nl ex 1 (ci t)] m = some (.P, .tup [.lst a b 1 R.length (rowsL R), .int .i64 0], m) := by
  have h7 := D.h7
  have hck := fun m => check_c nl ex 1 (ci t) (by rw [ci_len]; omega) m
  rw [hc] at hck
  obtain ⟨a, b, hr⟩ := rings_c nl ex 1 t h7 D.lt7 R K.hp (by intro c; have := K.h0; rw [c] at this; simp at this)
  refine ⟨a, b, fun m => call_P lp_wash_Rings rfl (by simp [LV.pures, LV.pure]) (m1 := []) ?_ (by simp [LV.pures, LV.pure]) m⟩
  simp only [wash_Rings, wash_Rings.B, beqT, beqF, exF_seq, exF_region, exF_block, exF_cond, exF_ret, exF_exit, exF_skip, runL, wantL, stepL, evL, LEnv.at, putL, loadFine, loadL, cellsAt, Trk.putNew, Trk.up, Trk.touch, Trk.gives, Trk.calm, Trk.hit, opdsOf, Trk.fresh, LEnv.keep, LEnv.ofFrom, List.map_cons, List.map_nil, nbeq, nble, nblt, ofAV, ofAVs, lenL, bin_add, bin_sub, bin_mul, bin_eql, bin_neq, bin_lss, bin_leq, bin_gtr, bin_geq, natL_nat, natL_zero, natL_one, natL_two, Nat.zero_mul, List.any_cons, List.any_nil, Bool.or_false, Bool.false_or, Bool.true_or, Bool.or_true, Bool.and_true, Bool.true_and, Bool.and_false, Bool.false_and, Bool.not_true, Bool.not_false, Nat.reduceBEq, Nat.reduceEqDiff, decide_true, decide_false, cond_true, cond_false, List.filter_nil, List.filter_cons, Nat.reduceAdd, Nat.reduceLeDiff, reduceCtorEq, List.length_nil, List.length_cons, Nat.mul_one, if_true, if_false, Bool.false_eq_true, eq_self, and_true, true_and, retL, resultsL, resAllL, resOfL, List.append_nil, List.nil_append, List.cons_append, true_or, or_true, false_or, or_false, false_and, and_false, not_true_eq_false, not_false_eq_true, ne_eq, unL, trim_nil, views_pures, LV.pures, LV.pure, freeze, Nat.reduceDiv, Int.reduceEq, Int.reduceLT, Int.reduceLE, Int.natCast_zero, LV.cells, allocL, List.getElem?_cons_zero, List.getElem?_cons_succ, storeL, spliceL, List.take_zero, List.take_succ_cons, List.drop_zero, List.drop_succ_cons, List.drop_nil, List.take_nil, Nat.le_refl, Nat.reduceMul, List.set_cons_zero, List.set_cons_succ, LV.scalar, List.all_cons, List.all_nil, Nat.lt_add_one, Nat.zero_lt_one, Nat.reduceLT, Nat.lt_irrefl, fillL, List.length_append, foldIntL, kind_beq, pures_int, solids_int, plains_int, unders_int, scalars_int, hck, hr]
theorem ci_toNat (t : List Nat) : (ci t).map Int.toNat = t := by simp [Function.comp_def]
end Go.Am.Wash


