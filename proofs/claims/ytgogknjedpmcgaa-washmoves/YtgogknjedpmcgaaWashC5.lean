/-
  What functions of chapter 13 compute, 5: where things are, when all is back, when a thing comes to a place.
-/
import Derived.Test.YtgogknjedpmcgaaWashC4
import Derived.Test.YtgogknjedpmcgaaWashP5
set_option linter.unusedVariables false
set_option linter.unusedSimpArgs false
set_option maxRecDepth 10000
namespace Go.Am.Wash
open Go.Am.G

theorem mapN_eq (b : List Nat) : ∀ a, mapN b a = thenN a b
  | [] => rfl
  | x :: r => by rw [mapN, mapN_eq b r]; rfl
theorem idN_range (n : Nat) : idN n 0 = List.range n := by rw [idN_eq, List.range_eq_range']
theorem thenN_len (a b : List Nat) : (thenN a b).length = a.length := by simp [thenN]
theorem thenN_lt {a b : List Nat} {N : Nat} (hb : ∀ x ∈ b, x < N) (h0 : 0 < N) : ∀ x ∈ thenN a b, x < N := by
  intro x hx
  simp only [thenN, List.mem_map] at hx
  obtain ⟨y, _, rfl⟩ := hx
  exact nth_lt hb h0 y
/-- A tide that was accepted. -/
structure Td (t : List Nat) : Prop where
  T : Tide t.length t
  h1 : 1 ≤ t.length
  h7 : t.length ≤ 7
theorem Td.lt {t : List Nat} (D : Td t) : ∀ x ∈ t, x < t.length := D.T.2.2
theorem Td.lt7 {t : List Nat} (D : Td t) : ∀ x ∈ t, x < 7 := fun x hx => by have := D.lt x hx; have := D.h7; omega
theorem td_of {t : List Int} (h : chkT t = 0) : ∃ q : List Nat, t = ci q ∧ Td q := by
  obtain ⟨q, e, h1, h2, h3⟩ := tide_of h
  exact ⟨q, e, h1, h2, h3⟩

/-! ### When all is back: the reference's -/
theorem back_loop (nl ex : Bool) (sz : Nat) {t : List Nat} (D : Td t) (r f : Nat) : ∀ (n : Nat) (now : List Nat) (a b : Bool) (c : Nat), bkF t (idN t.length 0) f n now = some r → now.length = t.length → (∀ x ∈ now, x < t.length) → n + f ≤ 1000 →
    exF LP ref13_back.L0 [(0, IL nl ex sz (ci t)), (3, .int .i64 (n : Int)), (4, IL a b c (ci now))] [] = some (.exit 0, [(3, .int .i64 (r : Int))], []) := by
  have h7 := D.h7
  have h1 := D.h1
  induction f with
  | zero => intro n now a b c h; cases h
  | succ f ih =>
    intro n now a b c h hl hx hn
    rw [bkF, idN_range] at h
    have hc := fun m => calm_c t.length (by omega) m
    have hs := fun a' b' c' m => rsame_c a b a' b' c c' now (List.range t.length) (by simp [hl]) (by omega) m
    cases he : eqN now (List.range t.length)
    · rw [he, cond_false] at h
      simp only [he] at hs
      have hth := fun m => rthen_c a b nl ex c sz now t hx (by omega) m
      rw [mapN_eq] at h
      have ih := ih (n + 1) (thenN now t) (decide (ci (thenN now t) = [])) (decide (ci (thenN now t) = [])) (cond (decide (ci (thenN now t) = [])) 0 1) (by rw [idN_range]; exact h) (by rw [thenN_len, hl]) (thenN_lt D.lt (by omega)) (by omega)
      rw [ref13_back.L0_eq]
      simp only [ref13_back.B0, beqT, beqF, exF_seq, exF_region, exF_block, exF_cond, exF_ret, exF_exit, exF_skip, runL, wantL, stepL, evL, LEnv.at, putL, loadFine, loadL, cellsAt, Trk.putNew, Trk.up, Trk.touch, Trk.gives, Trk.calm, Trk.hit, opdsOf, Trk.fresh, LEnv.keep, LEnv.ofFrom, List.map_cons, List.map_nil, nbeq, nble, nblt, ofAV, ofAVs, lenL, bin_add, bin_sub, bin_mul, bin_eql, bin_neq, bin_lss, bin_leq, bin_gtr, bin_geq, natL_nat, natL_zero, natL_one, natL_two, Nat.zero_mul, List.any_cons, List.any_nil, Bool.or_false, Bool.false_or, Bool.true_or, Bool.or_true, Bool.and_true, Bool.true_and, Bool.and_false, Bool.false_and, Bool.not_true, Bool.not_false, Nat.reduceBEq, Nat.reduceEqDiff, decide_true, decide_false, cond_true, cond_false, List.filter_nil, List.filter_cons, Nat.reduceAdd, Nat.reduceLeDiff, reduceCtorEq, List.length_nil, List.length_cons, Nat.mul_one, if_true, if_false, Bool.false_eq_true, eq_self, and_true, true_and, retL, resultsL, resAllL, resOfL, List.append_nil, List.nil_append, List.cons_append, true_or, or_true, false_or, or_false, false_and, and_false, not_true_eq_false, not_false_eq_true, ne_eq, unL, trim_nil, views_pures, LV.pures, LV.pure, freeze, Nat.reduceDiv, Int.reduceEq, Int.reduceLT, Int.reduceLE, Int.natCast_zero, LV.cells, allocL, List.getElem?_cons_zero, List.getElem?_cons_succ, storeL, spliceL, List.take_zero, List.take_succ_cons, List.drop_zero, List.drop_succ_cons, List.drop_nil, List.take_nil, Nat.le_refl, Nat.reduceMul, List.set_cons_zero, List.set_cons_succ, LV.scalar, List.all_cons, List.all_nil, Nat.lt_add_one, Nat.zero_lt_one, Nat.reduceLT, Nat.lt_irrefl, fillL, List.length_append, foldIntL, kind_beq, pures_int, solids_int, plains_int, unders_int, scalars_int, ci_len, hc, hs, hth, wrap_succ (show n + 1 < 9223372036854775808 by omega)]
      exact ih
    · rw [he, cond_true] at h
      have h := Option.some.inj h
      subst h
      simp only [he] at hs
      rw [ref13_back.L0_eq]
      simp only [ref13_back.B0, beqT, beqF, exF_seq, exF_region, exF_block, exF_cond, exF_ret, exF_exit, exF_skip, runL, wantL, stepL, evL, LEnv.at, putL, loadFine, loadL, cellsAt, Trk.putNew, Trk.up, Trk.touch, Trk.gives, Trk.calm, Trk.hit, opdsOf, Trk.fresh, LEnv.keep, LEnv.ofFrom, List.map_cons, List.map_nil, nbeq, nble, nblt, ofAV, ofAVs, lenL, bin_add, bin_sub, bin_mul, bin_eql, bin_neq, bin_lss, bin_leq, bin_gtr, bin_geq, natL_nat, natL_zero, natL_one, natL_two, Nat.zero_mul, List.any_cons, List.any_nil, Bool.or_false, Bool.false_or, Bool.true_or, Bool.or_true, Bool.and_true, Bool.true_and, Bool.and_false, Bool.false_and, Bool.not_true, Bool.not_false, Nat.reduceBEq, Nat.reduceEqDiff, decide_true, decide_false, cond_true, cond_false, List.filter_nil, List.filter_cons, Nat.reduceAdd, Nat.reduceLeDiff, reduceCtorEq, List.length_nil, List.length_cons, Nat.mul_one, if_true, if_false, Bool.false_eq_true, eq_self, and_true, true_and, retL, resultsL, resAllL, resOfL, List.append_nil, List.nil_append, List.cons_append, true_or, or_true, false_or, or_false, false_and, and_false, not_true_eq_false, not_false_eq_true, ne_eq, unL, trim_nil, views_pures, LV.pures, LV.pure, freeze, Nat.reduceDiv, Int.reduceEq, Int.reduceLT, Int.reduceLE, Int.natCast_zero, LV.cells, allocL, List.getElem?_cons_zero, List.getElem?_cons_succ, storeL, spliceL, List.take_zero, List.take_succ_cons, List.drop_zero, List.drop_succ_cons, List.drop_nil, List.take_nil, Nat.le_refl, Nat.reduceMul, List.set_cons_zero, List.set_cons_succ, LV.scalar, List.all_cons, List.all_nil, Nat.lt_add_one, Nat.zero_lt_one, Nat.reduceLT, Nat.lt_irrefl, fillL, List.length_append, foldIntL, kind_beq, pures_int, solids_int, plains_int, unders_int, scalars_int, ci_len, hc, hs]
theorem rback_c (nl ex : Bool) (sz : Nat) {t : List Nat} (D : Td t) {R : List (List Nat)} {n : Nat} (K : Known t R n) (m : LMem) : clF LP n_ref13_back [IL nl ex sz (ci t)] m = some (.P, .int .i64 (n : Int), m) := by
  have h := back_loop nl ex sz D n 20 1 t nl ex sz K.bk rfl D.lt (by omega)
  simp only [Int.natCast_one] at h
  refine call_P lp_ref13_back rfl (by simp [LV.pures, LV.pure]) (m1 := []) ?_ rfl m
  simp only [ref13_back, ref13_back.B, beqT, beqF, exF_seq, exF_region, exF_block, exF_cond, exF_ret, exF_exit, exF_skip, runL, wantL, stepL, evL, LEnv.at, putL, loadFine, loadL, cellsAt, Trk.putNew, Trk.up, Trk.touch, Trk.gives, Trk.calm, Trk.hit, opdsOf, Trk.fresh, LEnv.keep, LEnv.ofFrom, List.map_cons, List.map_nil, nbeq, nble, nblt, ofAV, ofAVs, lenL, bin_add, bin_sub, bin_mul, bin_eql, bin_neq, bin_lss, bin_leq, bin_gtr, bin_geq, natL_nat, natL_zero, natL_one, natL_two, Nat.zero_mul, List.any_cons, List.any_nil, Bool.or_false, Bool.false_or, Bool.true_or, Bool.or_true, Bool.and_true, Bool.true_and, Bool.and_false, Bool.false_and, Bool.not_true, Bool.not_false, Nat.reduceBEq, Nat.reduceEqDiff, decide_true, decide_false, cond_true, cond_false, List.filter_nil, List.filter_cons, Nat.reduceAdd, Nat.reduceLeDiff, reduceCtorEq, List.length_nil, List.length_cons, Nat.mul_one, if_true, if_false, Bool.false_eq_true, eq_self, and_true, true_and, retL, resultsL, resAllL, resOfL, List.append_nil, List.nil_append, List.cons_append, true_or, or_true, false_or, or_false, false_and, and_false, not_true_eq_false, not_false_eq_true, ne_eq, unL, trim_nil, views_pures, LV.pures, LV.pure, freeze, Nat.reduceDiv, Int.reduceEq, Int.reduceLT, Int.reduceLE, Int.natCast_zero, LV.cells, allocL, List.getElem?_cons_zero, List.getElem?_cons_succ, storeL, spliceL, List.take_zero, List.take_succ_cons, List.drop_zero, List.drop_succ_cons, List.drop_nil, List.take_nil, Nat.le_refl, Nat.reduceMul, List.set_cons_zero, List.set_cons_succ, LV.scalar, List.all_cons, List.all_nil, Nat.lt_add_one, Nat.zero_lt_one, Nat.reduceLT, Nat.lt_irrefl, fillL, List.length_append, foldIntL, kind_beq, pures_int, solids_int, plains_int, unders_int, scalars_int, h]

/-! ### The program's -/
theorem cntN_eq : ∀ (R : List (List Nat)) (x : Nat), cntN R x = cnt R x
  | [], _ => rfl
  | l :: r, x => by
    rw [cntN, cntN_eq r x]
    unfold cnt
    rw [List.filter_cons]
    by_cases c : l.length = x
    · rw [c, Nat.beq_refl]; simp
    · have : Nat.beq l.length x = false := by rw [nbeq]; simpa using c
      rw [this]; simp [c]
theorem bl_loop (K : List Nat) (hK : K.length = 8) (hKb : ∀ x, nth K x ≤ 100) (m step r : Nat) (hm : m < 8) (hm0 : 0 < m) (f : Nat) : ∀ (n : Nat), backL (nth K m) m step f n = some r → n + f * step ≤ 1000000 →
    exF LP wash_Back.L0 [(5, .ptr 0 0 8), (6, .int .i64 (n : Int)), (7, .int .i64 (m : Int)), (8, .int .i64 (step : Int))] [⟨ints (ci K), true⟩] = some (.exit 2, [(5, .ptr 0 0 8), (6, .int .i64 (r : Int)), (7, .int .i64 (m : Int))], [⟨ints (ci K), true⟩]) := by
  have hKc : (ints (ci K)).length = 8 := by simp [hK]
  have hat : (ints (ci K))[m]? = some (.int .i64 ((nth K m : Nat) : Int)) := by
    rw [nth_at K m (by omega), ints, ci_map]; exact nat_at _ _ _ (by omega)
  have hne : ((m : Nat) : Int) ≠ 0 := by omega
  induction f with
  | zero => intro n h; cases h
  | succ f ih =>
    intro n h hn
    rw [backL] at h
    rw [Nat.add_mul, Nat.one_mul] at hn
    by_cases c : nth K m = 0
    · rw [c] at h
      simp only [Nat.beq_refl, cond_true] at h
      obtain rfl := Option.some.inj h
      rw [c] at hat
      simp only [Int.natCast_zero] at hat
      rw [wash_Back.L0_eq]
      simp only [wash_Back.B0, beqT, beqF, exF_seq, exF_region, exF_block, exF_cond, exF_ret, exF_exit, exF_skip, runL, wantL, stepL, evL, LEnv.at, putL, loadFine, loadL, cellsAt, Trk.putNew, Trk.up, Trk.touch, Trk.gives, Trk.calm, Trk.hit, opdsOf, Trk.fresh, LEnv.keep, LEnv.ofFrom, List.map_cons, List.map_nil, nbeq, nble, nblt, ofAV, ofAVs, lenL, bin_add, bin_sub, bin_mul, bin_eql, bin_neq, bin_lss, bin_leq, bin_gtr, bin_geq, natL_nat, natL_zero, natL_one, natL_two, Nat.zero_mul, List.any_cons, List.any_nil, Bool.or_false, Bool.false_or, Bool.true_or, Bool.or_true, Bool.and_true, Bool.true_and, Bool.and_false, Bool.false_and, Bool.not_true, Bool.not_false, Nat.reduceBEq, Nat.reduceEqDiff, decide_true, decide_false, cond_true, cond_false, List.filter_nil, List.filter_cons, Nat.reduceAdd, Nat.reduceLeDiff, reduceCtorEq, List.length_nil, List.length_cons, Nat.mul_one, if_true, if_false, Bool.false_eq_true, eq_self, and_true, true_and, retL, resultsL, resAllL, resOfL, List.append_nil, List.nil_append, List.cons_append, true_or, or_true, false_or, or_false, false_and, and_false, not_true_eq_false, not_false_eq_true, ne_eq, unL, trim_nil, views_pures, LV.pures, LV.pure, freeze, Nat.reduceDiv, Int.reduceEq, Int.reduceLT, Int.reduceLE, Int.natCast_zero, LV.cells, allocL, List.getElem?_cons_zero, List.getElem?_cons_succ, storeL, spliceL, List.take_zero, List.take_succ_cons, List.drop_zero, List.drop_succ_cons, List.drop_nil, List.take_nil, Nat.le_refl, Nat.reduceMul, List.set_cons_zero, List.set_cons_succ, LV.scalar, List.all_cons, List.all_nil, Nat.lt_add_one, Nat.zero_lt_one, Nat.reduceLT, Nat.lt_irrefl, fillL, List.length_append, foldIntL, kind_beq, pures_int, solids_int, plains_int, unders_int, scalars_int, hm, hKc, Nat.zero_add, hat]
    · have e : Nat.beq (nth K m) 0 = false := by rw [nbeq]; simpa using c
      have c' : (0 : Int) < (nth K m : Int) := by omega
      rw [e, cond_false] at h
      by_cases c2 : n % m = 0
      · rw [c2] at h
        simp only [Nat.beq_refl, cond_true] at h
        obtain rfl := Option.some.inj h
        have c2' : ((n % m : Nat) : Int) = 0 := by omega
        rw [wash_Back.L0_eq]
        simp only [wash_Back.B0, beqT, beqF, exF_seq, exF_region, exF_block, exF_cond, exF_ret, exF_exit, exF_skip, runL, wantL, stepL, evL, LEnv.at, putL, loadFine, loadL, cellsAt, Trk.putNew, Trk.up, Trk.touch, Trk.gives, Trk.calm, Trk.hit, opdsOf, Trk.fresh, LEnv.keep, LEnv.ofFrom, List.map_cons, List.map_nil, nbeq, nble, nblt, ofAV, ofAVs, lenL, bin_add, bin_sub, bin_mul, bin_eql, bin_neq, bin_lss, bin_leq, bin_gtr, bin_geq, natL_nat, natL_zero, natL_one, natL_two, Nat.zero_mul, List.any_cons, List.any_nil, Bool.or_false, Bool.false_or, Bool.true_or, Bool.or_true, Bool.and_true, Bool.true_and, Bool.and_false, Bool.false_and, Bool.not_true, Bool.not_false, Nat.reduceBEq, Nat.reduceEqDiff, decide_true, decide_false, cond_true, cond_false, List.filter_nil, List.filter_cons, Nat.reduceAdd, Nat.reduceLeDiff, reduceCtorEq, List.length_nil, List.length_cons, Nat.mul_one, if_true, if_false, Bool.false_eq_true, eq_self, and_true, true_and, retL, resultsL, resAllL, resOfL, List.append_nil, List.nil_append, List.cons_append, true_or, or_true, false_or, or_false, false_and, and_false, not_true_eq_false, not_false_eq_true, ne_eq, unL, trim_nil, views_pures, LV.pures, LV.pure, freeze, Nat.reduceDiv, Int.reduceEq, Int.reduceLT, Int.reduceLE, Int.natCast_zero, LV.cells, allocL, List.getElem?_cons_zero, List.getElem?_cons_succ, storeL, spliceL, List.take_zero, List.take_succ_cons, List.drop_zero, List.drop_succ_cons, List.drop_nil, List.take_nil, Nat.le_refl, Nat.reduceMul, List.set_cons_zero, List.set_cons_succ, LV.scalar, List.all_cons, List.all_nil, Nat.lt_add_one, Nat.zero_lt_one, Nat.reduceLT, Nat.lt_irrefl, fillL, List.length_append, foldIntL, kind_beq, pures_int, solids_int, plains_int, unders_int, scalars_int, hm, hKc, Nat.zero_add, hat, c', bin_rem _ _ _ hne, tmod_nat, c2']
      · have e2 : Nat.beq (n % m) 0 = false := by rw [nbeq]; simpa using c2
        rw [e2, cond_false] at h
        have c2' : ¬ ((n % m : Nat) : Int) = 0 := by omega
        have hw : IntKind.i64.wrap ((n : Int) + (step : Int)) = ((n + step : Nat) : Int) := by rw [wrap_in (by omega)]; omega
        have ih := ih (n + step) h (by omega)
        rw [wash_Back.L0_eq]
        simp only [wash_Back.B0, beqT, beqF, exF_seq, exF_region, exF_block, exF_cond, exF_ret, exF_exit, exF_skip, runL, wantL, stepL, evL, LEnv.at, putL, loadFine, loadL, cellsAt, Trk.putNew, Trk.up, Trk.touch, Trk.gives, Trk.calm, Trk.hit, opdsOf, Trk.fresh, LEnv.keep, LEnv.ofFrom, List.map_cons, List.map_nil, nbeq, nble, nblt, ofAV, ofAVs, lenL, bin_add, bin_sub, bin_mul, bin_eql, bin_neq, bin_lss, bin_leq, bin_gtr, bin_geq, natL_nat, natL_zero, natL_one, natL_two, Nat.zero_mul, List.any_cons, List.any_nil, Bool.or_false, Bool.false_or, Bool.true_or, Bool.or_true, Bool.and_true, Bool.true_and, Bool.and_false, Bool.false_and, Bool.not_true, Bool.not_false, Nat.reduceBEq, Nat.reduceEqDiff, decide_true, decide_false, cond_true, cond_false, List.filter_nil, List.filter_cons, Nat.reduceAdd, Nat.reduceLeDiff, reduceCtorEq, List.length_nil, List.length_cons, Nat.mul_one, if_true, if_false, Bool.false_eq_true, eq_self, and_true, true_and, retL, resultsL, resAllL, resOfL, List.append_nil, List.nil_append, List.cons_append, true_or, or_true, false_or, or_false, false_and, and_false, not_true_eq_false, not_false_eq_true, ne_eq, unL, trim_nil, views_pures, LV.pures, LV.pure, freeze, Nat.reduceDiv, Int.reduceEq, Int.reduceLT, Int.reduceLE, Int.natCast_zero, LV.cells, allocL, List.getElem?_cons_zero, List.getElem?_cons_succ, storeL, spliceL, List.take_zero, List.take_succ_cons, List.drop_zero, List.drop_succ_cons, List.drop_nil, List.take_nil, Nat.le_refl, Nat.reduceMul, List.set_cons_zero, List.set_cons_succ, LV.scalar, List.all_cons, List.all_nil, Nat.lt_add_one, Nat.zero_lt_one, Nat.reduceLT, Nat.lt_irrefl, fillL, List.length_append, foldIntL, kind_beq, pures_int, solids_int, plains_int, unders_int, scalars_int, hm, hKc, Nat.zero_add, hat, c', bin_rem _ _ _ hne, tmod_nat, c2', hw, ih]
theorem backL_ge (c m step r : Nat) (f : Nat) : ∀ n, backL c m step f n = some r → n ≤ r := by
  induction f with
  | zero => intro n h; cases h
  | succ f ih =>
    intro n h
    rw [backL] at h
    cases e : (cond (Nat.beq c 0) true (Nat.beq (n % m) 0))
    · rw [e, cond_false] at h
      have := ih _ h; omega
    · rw [e, cond_true] at h
      have := Option.some.inj h; omega
theorem backA_ge (R : List (List Nat)) (r : Nat) (f : Nat) : ∀ m n, backA R f m n = some r → n ≤ r := by
  induction f with
  | zero => intro m n h; have := Option.some.inj h; omega
  | succ f ih =>
    intro m n h
    rw [backA] at h
    cases e : backL (cntN R m) m n 20 n with
    | none => rw [e] at h; cases h
    | some n' =>
      rw [e] at h
      have := ih _ _ h
      have := backL_ge _ _ _ _ _ _ e
      omega
theorem ba_loop (R : List (List Nat)) (hR : ∀ l ∈ R, l.length < 8) (hl : R.length ≤ 100) (r : Nat) (hr : r < 100) (f : Nat) : ∀ (m n : Nat), backA R f m n = some r → m + f = 8 → 2 ≤ m →
    exF LP wash_Back.L1 [(5, .ptr 0 0 8), (6, .int .i64 (n : Int)), (7, .int .i64 (m : Int))] [⟨ints (ci (kindL R)), true⟩] = some (.exit 0, [(6, .int .i64 (r : Int))], [⟨ints (ci (kindL R)), true⟩]) := by
  have hK : (kindL R).length = 8 := by simp [kindL, kF_len]
  have hKb : ∀ x, nth (kindL R) x ≤ 100 := fun x => by
    by_cases c : x < 8
    · rw [kindL_at R hR x c]
      exact Nat.le_trans (List.length_filter_le _ _) hl
    · rw [nth_getD, List.getD_eq_getElem?_getD, List.getElem?_eq_none (by omega)]; simp
  induction f with
  | zero =>
    intro m n h hm _
    have h := Option.some.inj h
    subst h
    obtain rfl : m = 8 := by omega
    rw [wash_Back.L1_eq]
    simp only [wash_Back.B1, beqT, beqF, exF_seq, exF_region, exF_block, exF_cond, exF_ret, exF_exit, exF_skip, runL, wantL, stepL, evL, LEnv.at, putL, loadFine, loadL, cellsAt, Trk.putNew, Trk.up, Trk.touch, Trk.gives, Trk.calm, Trk.hit, opdsOf, Trk.fresh, LEnv.keep, LEnv.ofFrom, List.map_cons, List.map_nil, nbeq, nble, nblt, ofAV, ofAVs, lenL, bin_add, bin_sub, bin_mul, bin_eql, bin_neq, bin_lss, bin_leq, bin_gtr, bin_geq, natL_nat, natL_zero, natL_one, natL_two, Nat.zero_mul, List.any_cons, List.any_nil, Bool.or_false, Bool.false_or, Bool.true_or, Bool.or_true, Bool.and_true, Bool.true_and, Bool.and_false, Bool.false_and, Bool.not_true, Bool.not_false, Nat.reduceBEq, Nat.reduceEqDiff, decide_true, decide_false, cond_true, cond_false, List.filter_nil, List.filter_cons, Nat.reduceAdd, Nat.reduceLeDiff, reduceCtorEq, List.length_nil, List.length_cons, Nat.mul_one, if_true, if_false, Bool.false_eq_true, eq_self, and_true, true_and, retL, resultsL, resAllL, resOfL, List.append_nil, List.nil_append, List.cons_append, true_or, or_true, false_or, or_false, false_and, and_false, not_true_eq_false, not_false_eq_true, ne_eq, unL, trim_nil, views_pures, LV.pures, LV.pure, freeze, Nat.reduceDiv, Int.reduceEq, Int.reduceLT, Int.reduceLE, Int.natCast_zero, LV.cells, allocL, List.getElem?_cons_zero, List.getElem?_cons_succ, storeL, spliceL, List.take_zero, List.take_succ_cons, List.drop_zero, List.drop_succ_cons, List.drop_nil, List.take_nil, Nat.le_refl, Nat.reduceMul, List.set_cons_zero, List.set_cons_succ, LV.scalar, List.all_cons, List.all_nil, Nat.lt_add_one, Nat.zero_lt_one, Nat.reduceLT, Nat.lt_irrefl, fillL, List.length_append, foldIntL, kind_beq, pures_int, solids_int, plains_int, unders_int, scalars_int, show ¬ (((8 : Nat) : Int) < 8) by omega]
  | succ f ih =>
    intro m n h hm h2
    rw [backA] at h
    cases e : backL (cntN R m) m n 20 n with
    | none => rw [e] at h; cases h
    | some n' =>
      rw [e] at h
      simp only at h
      have hn1 := backA_ge R r _ _ _ h
      have hn2 := backL_ge _ _ _ _ _ _ e
      rw [cntN_eq, ← kindL_at R hR m (by omega)] at e
      have hb := bl_loop (kindL R) hK hKb m n n' (by omega) (by omega) 20 n e (by omega)
      have ih := ih (m + 1) n' h (by omega) (by omega)
      generalize kindL R = K at *
      rw [wash_Back.L1_eq]
      simp only [wash_Back.B1, beqT, beqF, exF_seq, exF_region, exF_block, exF_cond, exF_ret, exF_exit, exF_skip, runL, wantL, stepL, evL, LEnv.at, putL, loadFine, loadL, cellsAt, Trk.putNew, Trk.up, Trk.touch, Trk.gives, Trk.calm, Trk.hit, opdsOf, Trk.fresh, LEnv.keep, LEnv.ofFrom, List.map_cons, List.map_nil, nbeq, nble, nblt, ofAV, ofAVs, lenL, bin_add, bin_sub, bin_mul, bin_eql, bin_neq, bin_lss, bin_leq, bin_gtr, bin_geq, natL_nat, natL_zero, natL_one, natL_two, Nat.zero_mul, List.any_cons, List.any_nil, Bool.or_false, Bool.false_or, Bool.true_or, Bool.or_true, Bool.and_true, Bool.true_and, Bool.and_false, Bool.false_and, Bool.not_true, Bool.not_false, Nat.reduceBEq, Nat.reduceEqDiff, decide_true, decide_false, cond_true, cond_false, List.filter_nil, List.filter_cons, Nat.reduceAdd, Nat.reduceLeDiff, reduceCtorEq, List.length_nil, List.length_cons, Nat.mul_one, if_true, if_false, Bool.false_eq_true, eq_self, and_true, true_and, retL, resultsL, resAllL, resOfL, List.append_nil, List.nil_append, List.cons_append, true_or, or_true, false_or, or_false, false_and, and_false, not_true_eq_false, not_false_eq_true, ne_eq, unL, trim_nil, views_pures, LV.pures, LV.pure, freeze, Nat.reduceDiv, Int.reduceEq, Int.reduceLT, Int.reduceLE, Int.natCast_zero, LV.cells, allocL, List.getElem?_cons_zero, List.getElem?_cons_succ, storeL, spliceL, List.take_zero, List.take_succ_cons, List.drop_zero, List.drop_succ_cons, List.drop_nil, List.take_nil, Nat.le_refl, Nat.reduceMul, List.set_cons_zero, List.set_cons_succ, LV.scalar, List.all_cons, List.all_nil, Nat.lt_add_one, Nat.zero_lt_one, Nat.reduceLT, Nat.lt_irrefl, fillL, List.length_append, foldIntL, kind_beq, pures_int, solids_int, plains_int, unders_int, scalars_int, show ((m : Nat) : Int) < 8 by omega, hb, wrap_succ (show m + 1 < 9223372036854775808 by omega), ih]
/-- The kinds of a tide. -/
theorem kindK_c (nl ex : Bool) (sz : Nat) {t : List Nat} (D : Td t) {R : List (List Nat)} {n : Nat} (K : Known t R n) (m : LMem) : clF LP n_wash_kindOf [IL nl ex sz (ci t)] m = some (.P, .agg (ints (ci (kindL R))), m) :=
  kind_c nl ex sz t D.h7 D.lt7 R K.hp (by intro c; have := K.h0; rw [c] at this; simp at this) (fun l hl => (K.rows l hl).2.1) (by have := K.h8; omega) m
theorem kind8 (R : List (List Nat)) : (ints (ci (kindL R))).length = 8 := by simp [kindL, kF_len]
theorem backP_c (nl ex : Bool) {t : List Nat} (D : Td t) {R : List (List Nat)} {n : Nat} (K : Known t R n) (hc : chkT (ci t) = 0) (m : LMem) : clF LP n_wash_Back [IL nl ex 1 (ci t)] m = some (.P, .tup [.int .i64 (n : Int), .int .i64 0], m) := by
  have h7 := D.h7
  have hck := fun m => check_c nl ex 1 (ci t) (by rw [ci_len]; omega) m
  rw [hc] at hck
  have hk := fun m => kindK_c nl ex 1 D K m
  have hb := ba_loop R (fun l hl => (K.rows l hl).2.1) (by have := K.h8; omega) n K.n100 6 2 1 K.ba rfl (by omega)
  have h8 := kind8 R
  have hsc : (ints (ci (kindL R))).all LV.scalar = true := scalars_int _ _
  have hdr : (ints (ci (kindL R))).drop 8 = [] := List.drop_eq_nil_of_le (by omega)
  generalize ints (ci (kindL R)) = w at *
  simp only [show ((2 : Nat) : Int) = 2 from rfl, show ((1 : Nat) : Int) = 1 from rfl] at hb
  refine call_P lp_wash_Back rfl (by simp [LV.pures, LV.pure]) (m1 := [⟨w, true⟩]) ?_ (by simp [LV.pures, LV.pure]) m
  simp only [wash_Back, wash_Back.B, beqT, beqF, exF_seq, exF_region, exF_block, exF_cond, exF_ret, exF_exit, exF_skip, runL, wantL, stepL, evL, LEnv.at, putL, loadFine, loadL, cellsAt, Trk.putNew, Trk.up, Trk.touch, Trk.gives, Trk.calm, Trk.hit, opdsOf, Trk.fresh, LEnv.keep, LEnv.ofFrom, List.map_cons, List.map_nil, nbeq, nble, nblt, ofAV, ofAVs, lenL, bin_add, bin_sub, bin_mul, bin_eql, bin_neq, bin_lss, bin_leq, bin_gtr, bin_geq, natL_nat, natL_zero, natL_one, natL_two, Nat.zero_mul, List.any_cons, List.any_nil, Bool.or_false, Bool.false_or, Bool.true_or, Bool.or_true, Bool.and_true, Bool.true_and, Bool.and_false, Bool.false_and, Bool.not_true, Bool.not_false, Nat.reduceBEq, Nat.reduceEqDiff, decide_true, decide_false, cond_true, cond_false, List.filter_nil, List.filter_cons, Nat.reduceAdd, Nat.reduceLeDiff, reduceCtorEq, List.length_nil, List.length_cons, Nat.mul_one, if_true, if_false, Bool.false_eq_true, eq_self, and_true, true_and, retL, resultsL, resAllL, resOfL, List.append_nil, List.nil_append, List.cons_append, true_or, or_true, false_or, or_false, false_and, and_false, not_true_eq_false, not_false_eq_true, ne_eq, unL, trim_nil, views_pures, LV.pures, LV.pure, freeze, Nat.reduceDiv, Int.reduceEq, Int.reduceLT, Int.reduceLE, Int.natCast_zero, LV.cells, allocL, List.getElem?_cons_zero, List.getElem?_cons_succ, storeL, spliceL, List.take_zero, List.take_succ_cons, List.drop_zero, List.drop_succ_cons, List.drop_nil, List.take_nil, Nat.le_refl, Nat.reduceMul, List.set_cons_zero, List.set_cons_succ, LV.scalar, List.all_cons, List.all_nil, Nat.lt_add_one, Nat.zero_lt_one, Nat.reduceLT, Nat.lt_irrefl, fillL, List.length_append, foldIntL, kind_beq, pures_int, solids_int, plains_int, unders_int, scalars_int, hck, hk, h8, hsc, hdr, hb]
theorem backR_c (nl ex : Bool) {t : List Nat} (D : Td t) {R : List (List Nat)} {n : Nat} (K : Known t R n) (hc : chkT (ci t) = 0) (m : LMem) : clF LP n_ref13_Back [IL nl ex 1 (ci t)] m = some (.P, .tup [.int .i64 (n : Int), .int .i64 0], m) := by
  have h7 := D.h7
  have hck := fun m => rcheck_c nl ex (ci t) (by rw [ci_len]; omega) m
  rw [hc] at hck
  have hk := fun m => rback_c nl ex 1 D K m
  refine call_P lp_ref13_Back rfl (by simp [LV.pures, LV.pure]) (m1 := []) ?_ (by simp [LV.pures, LV.pure]) m
  simp only [ref13_Back, ref13_Back.B, beqT, beqF, exF_seq, exF_region, exF_block, exF_cond, exF_ret, exF_exit, exF_skip, runL, wantL, stepL, evL, LEnv.at, putL, loadFine, loadL, cellsAt, Trk.putNew, Trk.up, Trk.touch, Trk.gives, Trk.calm, Trk.hit, opdsOf, Trk.fresh, LEnv.keep, LEnv.ofFrom, List.map_cons, List.map_nil, nbeq, nble, nblt, ofAV, ofAVs, lenL, bin_add, bin_sub, bin_mul, bin_eql, bin_neq, bin_lss, bin_leq, bin_gtr, bin_geq, natL_nat, natL_zero, natL_one, natL_two, Nat.zero_mul, List.any_cons, List.any_nil, Bool.or_false, Bool.false_or, Bool.true_or, Bool.or_true, Bool.and_true, Bool.true_and, Bool.and_false, Bool.false_and, Bool.not_true, Bool.not_false, Nat.reduceBEq, Nat.reduceEqDiff, decide_true, decide_false, cond_true, cond_false, List.filter_nil, List.filter_cons, Nat.reduceAdd, Nat.reduceLeDiff, reduceCtorEq, List.length_nil, List.length_cons, Nat.mul_one, if_true, if_false, Bool.false_eq_true, eq_self, and_true, true_and, retL, resultsL, resAllL, resOfL, List.append_nil, List.nil_append, List.cons_append, true_or, or_true, false_or, or_false, false_and, and_false, not_true_eq_false, not_false_eq_true, ne_eq, unL, trim_nil, views_pures, LV.pures, LV.pure, freeze, Nat.reduceDiv, Int.reduceEq, Int.reduceLT, Int.reduceLE, Int.natCast_zero, LV.cells, allocL, List.getElem?_cons_zero, List.getElem?_cons_succ, storeL, spliceL, List.take_zero, List.take_succ_cons, List.drop_zero, List.drop_succ_cons, List.drop_nil, List.take_nil, Nat.le_refl, Nat.reduceMul, List.set_cons_zero, List.set_cons_succ, LV.scalar, List.all_cons, List.all_nil, Nat.lt_add_one, Nat.zero_lt_one, Nat.reduceLT, Nat.lt_irrefl, fillL, List.length_append, foldIntL, kind_beq, pures_int, solids_int, plains_int, unders_int, scalars_int, hck, hk]
theorem backPe_c (nl ex : Bool) (t : List Int) (hl : t.length < 1000000) (hc : chkT t ≠ 0) (m : LMem) : clF LP n_wash_Back [IL nl ex 1 t] m = some (.P, .tup [.int .i64 0, .int .i64 (chkT t)], m) := by
  have hck := fun m => check_c nl ex 1 t hl m
  refine call_P lp_wash_Back rfl (by simp [LV.pures, LV.pure]) (m1 := []) ?_ (by simp [LV.pures, LV.pure]) m
  simp only [wash_Back, wash_Back.B, beqT, beqF, exF_seq, exF_region, exF_block, exF_cond, exF_ret, exF_exit, exF_skip, runL, wantL, stepL, evL, LEnv.at, putL, loadFine, loadL, cellsAt, Trk.putNew, Trk.up, Trk.touch, Trk.gives, Trk.calm, Trk.hit, opdsOf, Trk.fresh, LEnv.keep, LEnv.ofFrom, List.map_cons, List.map_nil, nbeq, nble, nblt, ofAV, ofAVs, lenL, bin_add, bin_sub, bin_mul, bin_eql, bin_neq, bin_lss, bin_leq, bin_gtr, bin_geq, natL_nat, natL_zero, natL_one, natL_two, Nat.zero_mul, List.any_cons, List.any_nil, Bool.or_false, Bool.false_or, Bool.true_or, Bool.or_true, Bool.and_true, Bool.true_and, Bool.and_false, Bool.false_and, Bool.not_true, Bool.not_false, Nat.reduceBEq, Nat.reduceEqDiff, decide_true, decide_false, cond_true, cond_false, List.filter_nil, List.filter_cons, Nat.reduceAdd, Nat.reduceLeDiff, reduceCtorEq, List.length_nil, List.length_cons, Nat.mul_one, if_true, if_false, Bool.false_eq_true, eq_self, and_true, true_and, retL, resultsL, resAllL, resOfL, List.append_nil, List.nil_append, List.cons_append, true_or, or_true, false_or, or_false, false_and, and_false, not_true_eq_false, not_false_eq_true, ne_eq, unL, trim_nil, views_pures, LV.pures, LV.pure, freeze, Nat.reduceDiv, Int.reduceEq, Int.reduceLT, Int.reduceLE, Int.natCast_zero, LV.cells, allocL, List.getElem?_cons_zero, List.getElem?_cons_succ, storeL, spliceL, List.take_zero, List.take_succ_cons, List.drop_zero, List.drop_succ_cons, List.drop_nil, List.take_nil, Nat.le_refl, Nat.reduceMul, List.set_cons_zero, List.set_cons_succ, LV.scalar, List.all_cons, List.all_nil, Nat.lt_add_one, Nat.zero_lt_one, Nat.reduceLT, Nat.lt_irrefl, fillL, List.length_append, foldIntL, kind_beq, pures_int, solids_int, plains_int, unders_int, scalars_int, hck, hc]
theorem backRe_c (nl ex : Bool) (t : List Int) (hl : t.length < 1000000) (hc : chkT t ≠ 0) (m : LMem) : clF LP n_ref13_Back [IL nl ex 1 t] m = some (.P, .tup [.int .i64 0, .int .i64 (chkT t)], m) := by
  have hck := fun m => rcheck_c nl ex t hl m
  refine call_P lp_ref13_Back rfl (by simp [LV.pures, LV.pure]) (m1 := []) ?_ (by simp [LV.pures, LV.pure]) m
  simp only [ref13_Back, ref13_Back.B, beqT, beqF, exF_seq, exF_region, exF_block, exF_cond, exF_ret, exF_exit, exF_skip, runL, wantL, stepL, evL, LEnv.at, putL, loadFine, loadL, cellsAt, Trk.putNew, Trk.up, Trk.touch, Trk.gives, Trk.calm, Trk.hit, opdsOf, Trk.fresh, LEnv.keep, LEnv.ofFrom, List.map_cons, List.map_nil, nbeq, nble, nblt, ofAV, ofAVs, lenL, bin_add, bin_sub, bin_mul, bin_eql, bin_neq, bin_lss, bin_leq, bin_gtr, bin_geq, natL_nat, natL_zero, natL_one, natL_two, Nat.zero_mul, List.any_cons, List.any_nil, Bool.or_false, Bool.false_or, Bool.true_or, Bool.or_true, Bool.and_true, Bool.true_and, Bool.and_false, Bool.false_and, Bool.not_true, Bool.not_false, Nat.reduceBEq, Nat.reduceEqDiff, decide_true, decide_false, cond_true, cond_false, List.filter_nil, List.filter_cons, Nat.reduceAdd, Nat.reduceLeDiff, reduceCtorEq, List.length_nil, List.length_cons, Nat.mul_one, if_true, if_false, Bool.false_eq_true, eq_self, and_true, true_and, retL, resultsL, resAllL, resOfL, List.append_nil, List.nil_append, List.cons_append, true_or, or_true, false_or, or_false, false_and, and_false, not_true_eq_false, not_false_eq_true, ne_eq, unL, trim_nil, views_pures, LV.pures, LV.pure, freeze, Nat.reduceDiv, Int.reduceEq, Int.reduceLT, Int.reduceLE, Int.natCast_zero, LV.cells, allocL, List.getElem?_cons_zero, List.getElem?_cons_succ, storeL, spliceL, List.take_zero, List.take_succ_cons, List.drop_zero, List.drop_succ_cons, List.drop_nil, List.take_nil, Nat.le_refl, Nat.reduceMul, List.set_cons_zero, List.set_cons_succ, LV.scalar, List.all_cons, List.all_nil, Nat.lt_add_one, Nat.zero_lt_one, Nat.reduceLT, Nat.lt_irrefl, fillL, List.length_append, foldIntL, kind_beq, pures_int, solids_int, plains_int, unders_int, scalars_int, hck, hc]
end Go.Am.Wash

