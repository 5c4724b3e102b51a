/-
  What functions of chapter 13 compute, 4: the reference's rings; tides one after the other.
-/
import Derived.Test.YtgogknjedpmcgaaWashC3
set_option linter.unusedVariables false
set_option linter.unusedSimpArgs false
set_option maxRecDepth 10000
namespace Go.Am.Wash
open Go.Am.G

abbrev rowsR (L : List (List Nat)) : List LV := L.map rowR
theorem rowsR_pures : ∀ L : List (List Nat), LV.pures (rowsR L) = true
  | [] => rfl
  | a :: r => by
    have := rowsR_pures r
    simp only [rowsR, List.map_cons, LV.pures, LV.pure, Bool.true_and] at *
    exact this
theorem rowsR_at (L : List (List Nat)) (i : Nat) (h : i < L.length) : (rowsR L)[i]? = some (rowR L[i]) := by rw [List.getElem?_map, List.getElem?_eq_getElem h]; rfl
theorem rowR_app {m : LMem} {v : LV} {out : List (List Nat)} (h : Lst m v 1 out.length (rowsR out)) (l : List Nat) (hl : out.length < 1000000) :
    ∃ v' m', appendL m 1 24 v (.lst false true 1 1 [rowR l]) = some (v', m') ∧ Lst m' v' 1 (out ++ [l]).length (rowsR (out ++ [l])) := by
  obtain ⟨v', m', h1, h2, _⟩ := h.append (x := .lst false true 1 1 [rowR l]) (k := 1) (bytes := 24) (news := [rowR l]) rfl rfl (by omega) (by omega) rfl
  refine ⟨v', m', h1, ?_⟩
  have e : rowsR (out ++ [l]) = rowsR out ++ [rowR l] := by simp [rowsR]
  rw [e, List.length_append]
  exact h2
theorem least_loop (nl ex : Bool) (sz : Nat) (t : List Nat) (v : LV) (p : Nat) (l : List Nat) (hl : l.length < 1000) (m : LMem) (n : Nat) : ∀ (k x : Nat), k + n = l.length →
    exF LP ref13_rings.L0 [(0, IL nl ex sz (ci t)), (3, v), (4, .int .i64 (p : Int)), (5, rowR l), (6, .int .i64 (x : Int)), (7, .int .i64 (k : Int))] m = some (.exit 2, [(0, IL nl ex sz (ci t)), (3, v), (4, .int .i64 (p : Int)), (5, rowR l), (6, .int .i64 (minL x (l.drop k) : Int))], m) := by
  induction n with
  | zero =>
    intro k x hk
    rw [ref13_rings.L0_eq]
    simp only [ref13_rings.B0, beqT, beqF, exF_seq, exF_region, exF_block, exF_cond, exF_ret, exF_exit, exF_skip, runL, wantL, stepL, evL, LEnv.at, putL, loadFine, loadL, cellsAt, Trk.putNew, Trk.up, Trk.touch, Trk.gives, Trk.calm, Trk.hit, opdsOf, Trk.fresh, LEnv.keep, LEnv.ofFrom, List.map_cons, List.map_nil, nbeq, nble, nblt, ofAV, ofAVs, lenL, bin_add, bin_sub, bin_mul, bin_eql, bin_neq, bin_lss, bin_leq, bin_gtr, bin_geq, natL_nat, natL_zero, natL_one, natL_two, Nat.zero_mul, List.any_cons, List.any_nil, Bool.or_false, Bool.false_or, Bool.true_or, Bool.or_true, Bool.and_true, Bool.true_and, Bool.and_false, Bool.false_and, Bool.not_true, Bool.not_false, Nat.reduceBEq, Nat.reduceEqDiff, decide_true, decide_false, cond_true, cond_false, List.filter_nil, List.filter_cons, Nat.reduceAdd, Nat.reduceLeDiff, reduceCtorEq, List.length_nil, List.length_cons, Nat.mul_one, if_true, if_false, Bool.false_eq_true, eq_self, and_true, true_and, retL, resultsL, resAllL, resOfL, List.append_nil, List.nil_append, List.cons_append, true_or, or_true, false_or, or_false, false_and, and_false, not_true_eq_false, not_false_eq_true, ne_eq, unL, trim_nil, views_pures, LV.pures, LV.pure, freeze, Nat.reduceDiv, Int.reduceEq, Int.reduceLT, Int.reduceLE, Int.natCast_zero, LV.cells, allocL, List.getElem?_cons_zero, List.getElem?_cons_succ, storeL, spliceL, List.take_zero, List.take_succ_cons, List.drop_zero, List.drop_succ_cons, List.drop_nil, List.take_nil, Nat.le_refl, Nat.reduceMul, List.set_cons_zero, List.set_cons_succ, LV.scalar, List.all_cons, List.all_nil, Nat.lt_add_one, Nat.zero_lt_one, Nat.reduceLT, Nat.lt_irrefl, fillL, List.length_append, foldIntL, kind_beq, pures_int, solids_int, plains_int, unders_int, scalars_int, show ¬ ((k : Int) < (l.length : Int)) by omega, List.drop_eq_nil_of_le (show l.length ≤ k by omega), minL]
  | succ n ih =>
    intro k x hk
    have h2 : k < l.length := by omega
    have hat : (ints (ci l))[k]? = some (.int .i64 ((l[k] : Nat) : Int)) := by rw [ints, ci_map]; exact nat_at _ _ _ h2
    have ih := ih (k + 1) (cond (Nat.blt l[k] x) l[k] x) (by omega)
    have hm : (if ((l[k] : Nat) : Int) < (x : Int) then ((l[k] : Nat) : Int) else (x : Int)) = ((cond (Nat.blt l[k] x) l[k] x : Nat) : Int) := by
      rw [nblt]
      by_cases c : l[k] < x
      · rw [if_pos (by omega), decide_eq_true c, cond_true]
      · rw [if_neg (by omega), decide_eq_false c, cond_false]
    rw [ref13_rings.L0_eq, List.drop_eq_getElem_cons h2, minL]
    generalize (cond (Nat.blt l[k] x) l[k] x) = y at *
    simp only [ref13_rings.B0, beqT, beqF, exF_seq, exF_region, exF_block, exF_cond, exF_ret, exF_exit, exF_skip, runL, wantL, stepL, evL, LEnv.at, putL, loadFine, loadL, cellsAt, Trk.putNew, Trk.up, Trk.touch, Trk.gives, Trk.calm, Trk.hit, opdsOf, Trk.fresh, LEnv.keep, LEnv.ofFrom, List.map_cons, List.map_nil, nbeq, nble, nblt, ofAV, ofAVs, lenL, bin_add, bin_sub, bin_mul, bin_eql, bin_neq, bin_lss, bin_leq, bin_gtr, bin_geq, natL_nat, natL_zero, natL_one, natL_two, Nat.zero_mul, List.any_cons, List.any_nil, Bool.or_false, Bool.false_or, Bool.true_or, Bool.or_true, Bool.and_true, Bool.true_and, Bool.and_false, Bool.false_and, Bool.not_true, Bool.not_false, Nat.reduceBEq, Nat.reduceEqDiff, decide_true, decide_false, cond_true, cond_false, List.filter_nil, List.filter_cons, Nat.reduceAdd, Nat.reduceLeDiff, reduceCtorEq, List.length_nil, List.length_cons, Nat.mul_one, if_true, if_false, Bool.false_eq_true, eq_self, and_true, true_and, retL, resultsL, resAllL, resOfL, List.append_nil, List.nil_append, List.cons_append, true_or, or_true, false_or, or_false, false_and, and_false, not_true_eq_false, not_false_eq_true, ne_eq, unL, trim_nil, views_pures, LV.pures, LV.pure, freeze, Nat.reduceDiv, Int.reduceEq, Int.reduceLT, Int.reduceLE, Int.natCast_zero, LV.cells, allocL, List.getElem?_cons_zero, List.getElem?_cons_succ, storeL, spliceL, List.take_zero, List.take_succ_cons, List.drop_zero, List.drop_succ_cons, List.drop_nil, List.take_nil, Nat.le_refl, Nat.reduceMul, List.set_cons_zero, List.set_cons_succ, LV.scalar, List.all_cons, List.all_nil, Nat.lt_add_one, Nat.zero_lt_one, Nat.reduceLT, Nat.lt_irrefl, fillL, List.length_append, foldIntL, kind_beq, pures_int, solids_int, plains_int, unders_int, scalars_int, show ((k : Int) < (l.length : Int)) by omega, h2, hat, hm, wrap_succ (show k + 1 < 9223372036854775808 by omega), ih]
theorem rgF_len (t : List Nat) (p : Nat) (l : List Nat) (f : Nat) : ∀ (q : Nat) (out : List Nat), rgF t p f q out = some l → l.length ≤ out.length + f := by
  induction f with
  | zero => intro q out h; cases h
  | succ f ih =>
    intro q out h
    rw [rgF] at h
    cases e : Nat.beq q p
    · rw [e, cond_false] at h
      cases e2 : Nat.blt q t.length
      · rw [e2] at h; cases h
      · rw [e2, cond_true] at h
        have := ih _ _ h
        simp at this; omega
    · rw [e, cond_true] at h
      obtain rfl := Option.some.inj h
      omega
theorem ringR_len {t : List Nat} {p : Nat} {l : List Nat} (h : ringR t p = some l) : l.length ≤ 10 := by
  have := rgF_len t p l 9 _ _ h
  simpa using this
theorem rrings_loop (nl ex : Bool) (sz : Nat) (t : List Nat) (hlt : ∀ x ∈ t, x < 7) (hlen : t.length ≤ 7) (R : List (List Nat)) (n : Nat) : ∀ (p : Nat) (out : List (List Nat)) (v : LV) (m : LMem), p + n = t.length → ringsH t n p out = some R → Lst m v 1 out.length (rowsR out) → out.length ≤ p →
    ∃ v' m', exF LP ref13_rings.L1 [(0, IL nl ex sz (ci t)), (3, v), (4, .int .i64 (p : Int))] m = some (.exit 0, [(3, v')], m') ∧ Lst m' v' 1 R.length (rowsR R) := by
  induction n with
  | zero =>
    intro p out v m hp h hv ho
    have h := Option.some.inj h
    subst h
    refine ⟨v, m, ?_, hv⟩
    rw [ref13_rings.L1_eq]
    simp only [ref13_rings.B1, beqT, beqF, exF_seq, exF_region, exF_block, exF_cond, exF_ret, exF_exit, exF_skip, runL, wantL, stepL, evL, LEnv.at, putL, loadFine, loadL, cellsAt, Trk.putNew, Trk.up, Trk.touch, Trk.gives, Trk.calm, Trk.hit, opdsOf, Trk.fresh, LEnv.keep, LEnv.ofFrom, List.map_cons, List.map_nil, nbeq, nble, nblt, ofAV, ofAVs, lenL, bin_add, bin_sub, bin_mul, bin_eql, bin_neq, bin_lss, bin_leq, bin_gtr, bin_geq, natL_nat, natL_zero, natL_one, natL_two, Nat.zero_mul, List.any_cons, List.any_nil, Bool.or_false, Bool.false_or, Bool.true_or, Bool.or_true, Bool.and_true, Bool.true_and, Bool.and_false, Bool.false_and, Bool.not_true, Bool.not_false, Nat.reduceBEq, Nat.reduceEqDiff, decide_true, decide_false, cond_true, cond_false, List.filter_nil, List.filter_cons, Nat.reduceAdd, Nat.reduceLeDiff, reduceCtorEq, List.length_nil, List.length_cons, Nat.mul_one, if_true, if_false, Bool.false_eq_true, eq_self, and_true, true_and, retL, resultsL, resAllL, resOfL, List.append_nil, List.nil_append, List.cons_append, true_or, or_true, false_or, or_false, false_and, and_false, not_true_eq_false, not_false_eq_true, ne_eq, unL, trim_nil, views_pures, LV.pures, LV.pure, freeze, Nat.reduceDiv, Int.reduceEq, Int.reduceLT, Int.reduceLE, Int.natCast_zero, LV.cells, allocL, List.getElem?_cons_zero, List.getElem?_cons_succ, storeL, spliceL, List.take_zero, List.take_succ_cons, List.drop_zero, List.drop_succ_cons, List.drop_nil, List.take_nil, Nat.le_refl, Nat.reduceMul, List.set_cons_zero, List.set_cons_succ, LV.scalar, List.all_cons, List.all_nil, Nat.lt_add_one, Nat.zero_lt_one, Nat.reduceLT, Nat.lt_irrefl, fillL, List.length_append, foldIntL, kind_beq, pures_int, solids_int, plains_int, unders_int, scalars_int, ci_len, show ¬ ((p : Int) < (t.length : Int)) by omega]
  | succ n ih =>
    intro p out v m hp h hv ho
    rw [ringsH] at h
    cases hr : ringR t p with
    | none => rw [hr] at h; cases h
    | some l =>
      rw [hr] at h
      simp only at h
      have hpt : p < t.length := by omega
      have hrc := fun m => ring_c nl ex sz t hlt p hpt l hr m
      have hl10 := ringR_len hr
      have hlst := fun m => least_loop nl ex sz t v p l (by omega) m l.length 0 p (by omega)
      simp only [List.drop_zero, Int.natCast_zero] at hlst
      by_cases c : minL p l = p
      · rw [c] at h
        simp only [Nat.beq_refl, cond_true] at h
        obtain ⟨v2, m2, f1, f2⟩ := rowR_app hv l (by omega)
        obtain ⟨v', m', g1, g2⟩ := ih (p + 1) (out ++ [l]) v2 m2 (by omega) h f2 (by simp; omega)
        refine ⟨v', m', ?_, g2⟩
        have hci : (rowR l).cells = some [rowR l] := rfl
        rw [c] at hlst
        rw [ref13_rings.L1_eq]
        simp only [ref13_rings.B1, beqT, beqF, exF_seq, exF_region, exF_block, exF_cond, exF_ret, exF_exit, exF_skip, runL, wantL, stepL, evL, LEnv.at, putL, loadFine, loadL, cellsAt, Trk.putNew, Trk.up, Trk.touch, Trk.gives, Trk.calm, Trk.hit, opdsOf, Trk.fresh, LEnv.keep, LEnv.ofFrom, List.map_cons, List.map_nil, nbeq, nble, nblt, ofAV, ofAVs, lenL, bin_add, bin_sub, bin_mul, bin_eql, bin_neq, bin_lss, bin_leq, bin_gtr, bin_geq, natL_nat, natL_zero, natL_one, natL_two, Nat.zero_mul, List.any_cons, List.any_nil, Bool.or_false, Bool.false_or, Bool.true_or, Bool.or_true, Bool.and_true, Bool.true_and, Bool.and_false, Bool.false_and, Bool.not_true, Bool.not_false, Nat.reduceBEq, Nat.reduceEqDiff, decide_true, decide_false, cond_true, cond_false, List.filter_nil, List.filter_cons, Nat.reduceAdd, Nat.reduceLeDiff, reduceCtorEq, List.length_nil, List.length_cons, Nat.mul_one, if_true, if_false, Bool.false_eq_true, eq_self, and_true, true_and, retL, resultsL, resAllL, resOfL, List.append_nil, List.nil_append, List.cons_append, true_or, or_true, false_or, or_false, false_and, and_false, not_true_eq_false, not_false_eq_true, ne_eq, unL, trim_nil, views_pures, LV.pures, LV.pure, freeze, Nat.reduceDiv, Int.reduceEq, Int.reduceLT, Int.reduceLE, Int.natCast_zero, LV.cells, allocL, List.getElem?_cons_zero, List.getElem?_cons_succ, storeL, spliceL, List.take_zero, List.take_succ_cons, List.drop_zero, List.drop_succ_cons, List.drop_nil, List.take_nil, Nat.le_refl, Nat.reduceMul, List.set_cons_zero, List.set_cons_succ, LV.scalar, List.all_cons, List.all_nil, Nat.lt_add_one, Nat.zero_lt_one, Nat.reduceLT, Nat.lt_irrefl, fillL, List.length_append, foldIntL, kind_beq, pures_int, solids_int, plains_int, unders_int, scalars_int, ci_len, show ((p : Int) < (t.length : Int)) by omega, hrc, hlst, hci, f1, wrap_succ (show p + 1 < 9223372036854775808 by omega), g1]
      · have e : Nat.beq (minL p l) p = false := by rw [nbeq]; simpa using c
        rw [e, cond_false] at h
        have c' : ¬ ((minL p l : Nat) : Int) = (p : Int) := by omega
        obtain ⟨v', m', g1, g2⟩ := ih (p + 1) out v m (by omega) h hv (by omega)
        refine ⟨v', m', ?_, g2⟩
        rw [ref13_rings.L1_eq]
        simp only [ref13_rings.B1, beqT, beqF, exF_seq, exF_region, exF_block, exF_cond, exF_ret, exF_exit, exF_skip, runL, wantL, stepL, evL, LEnv.at, putL, loadFine, loadL, cellsAt, Trk.putNew, Trk.up, Trk.touch, Trk.gives, Trk.calm, Trk.hit, opdsOf, Trk.fresh, LEnv.keep, LEnv.ofFrom, List.map_cons, List.map_nil, nbeq, nble, nblt, ofAV, ofAVs, lenL, bin_add, bin_sub, bin_mul, bin_eql, bin_neq, bin_lss, bin_leq, bin_gtr, bin_geq, natL_nat, natL_zero, natL_one, natL_two, Nat.zero_mul, List.any_cons, List.any_nil, Bool.or_false, Bool.false_or, Bool.true_or, Bool.or_true, Bool.and_true, Bool.true_and, Bool.and_false, Bool.false_and, Bool.not_true, Bool.not_false, Nat.reduceBEq, Nat.reduceEqDiff, decide_true, decide_false, cond_true, cond_false, List.filter_nil, List.filter_cons, Nat.reduceAdd, Nat.reduceLeDiff, reduceCtorEq, List.length_nil, List.length_cons, Nat.mul_one, if_true, if_false, Bool.false_eq_true, eq_self, and_true, true_and, retL, resultsL, resAllL, resOfL, List.append_nil, List.nil_append, List.cons_append, true_or, or_true, false_or, or_false, false_and, and_false, not_true_eq_false, not_false_eq_true, ne_eq, unL, trim_nil, views_pures, LV.pures, LV.pure, freeze, Nat.reduceDiv, Int.reduceEq, Int.reduceLT, Int.reduceLE, Int.natCast_zero, LV.cells, allocL, List.getElem?_cons_zero, List.getElem?_cons_succ, storeL, spliceL, List.take_zero, List.take_succ_cons, List.drop_zero, List.drop_succ_cons, List.drop_nil, List.take_nil, Nat.le_refl, Nat.reduceMul, List.set_cons_zero, List.set_cons_succ, LV.scalar, List.all_cons, List.all_nil, Nat.lt_add_one, Nat.zero_lt_one, Nat.reduceLT, Nat.lt_irrefl, fillL, List.length_append, foldIntL, kind_beq, pures_int, solids_int, plains_int, unders_int, scalars_int, ci_len, show ((p : Int) < (t.length : Int)) by omega, hrc, hlst, c', wrap_succ (show p + 1 < 9223372036854775808 by omega), g1]
theorem rrings_c (nl ex : Bool) (sz : Nat) (t : List Nat) (hlt : ∀ x ∈ t, x < 7) (hlen : t.length ≤ 7) (R : List (List Nat)) (h : ringsR t = some R) (h0 : R ≠ []) : ∃ a b, ∀ m, clF LP n_ref13_rings [IL nl ex sz (ci t)] m = some (.P, .lst a b 1 R.length (rowsR R), m) := by
  obtain ⟨v, m1, h1, h2⟩ := rrings_loop nl ex sz t hlt hlen R t.length 0 [] (.lst true true 0 0 []) [] (by omega) h (Lst.nil _ _) (by simp)
  obtain ⟨a, b, c, ids, hc, _, _, hv⟩ := h2.view (rowsR_pures _) (by omega)
  obtain rfl : c = 1 := by
    rcases hc with c | c
    · exact absurd (List.length_eq_zero_iff.1 c) h0
    · exact c
  simp only [Int.natCast_zero] at h1
  refine ⟨a, b, fun m => call_Pv lp_ref13_rings rfl (by simp [LV.pures, LV.pure]) ?_ (hv 37) m⟩
  simp only [ref13_rings, ref13_rings.B, beqT, beqF, exF_seq, exF_region, exF_block, exF_cond, exF_ret, exF_exit, exF_skip, runL, wantL, stepL, evL, LEnv.at, putL, loadFine, loadL, cellsAt, Trk.putNew, Trk.up, Trk.touch, Trk.gives, Trk.calm, Trk.hit, opdsOf, Trk.fresh, LEnv.keep, LEnv.ofFrom, List.map_cons, List.map_nil, nbeq, nble, nblt, ofAV, ofAVs, lenL, bin_add, bin_sub, bin_mul, bin_eql, bin_neq, bin_lss, bin_leq, bin_gtr, bin_geq, natL_nat, natL_zero, natL_one, natL_two, Nat.zero_mul, List.any_cons, List.any_nil, Bool.or_false, Bool.false_or, Bool.true_or, Bool.or_true, Bool.and_true, Bool.true_and, Bool.and_false, Bool.false_and, Bool.not_true, Bool.not_false, Nat.reduceBEq, Nat.reduceEqDiff, decide_true, decide_false, cond_true, cond_false, List.filter_nil, List.filter_cons, Nat.reduceAdd, Nat.reduceLeDiff, reduceCtorEq, List.length_nil, List.length_cons, Nat.mul_one, if_true, if_false, Bool.false_eq_true, eq_self, and_true, true_and, retL, resultsL, resAllL, resOfL, List.append_nil, List.nil_append, List.cons_append, true_or, or_true, false_or, or_false, false_and, and_false, not_true_eq_false, not_false_eq_true, ne_eq, unL, trim_nil, views_pures, LV.pures, LV.pure, freeze, Nat.reduceDiv, Int.reduceEq, Int.reduceLT, Int.reduceLE, Int.natCast_zero, LV.cells, allocL, List.getElem?_cons_zero, List.getElem?_cons_succ, storeL, spliceL, List.take_zero, List.take_succ_cons, List.drop_zero, List.drop_succ_cons, List.drop_nil, List.take_nil, Nat.le_refl, Nat.reduceMul, List.set_cons_zero, List.set_cons_succ, LV.scalar, List.all_cons, List.all_nil, Nat.lt_add_one, Nat.zero_lt_one, Nat.reduceLT, Nat.lt_irrefl, fillL, List.length_append, foldIntL, kind_beq, pures_int, solids_int, plains_int, unders_int, scalars_int, h1]
/-! ### One tide and then another one -/
def thenN (a b : List Nat) : List Nat := a.map (nth b)
theorem rthen_loop (nl ex nl' ex' : Bool) (sz sz' : Nat) (a b : List Nat) (ha : ∀ x ∈ a, x < b.length) (hal : a.length ≤ 1000) (n : Nat) : ∀ (k : Nat) (l : List Nat), k + n = a.length → l.length ≤ k →
    exF LP ref13_then.L0 [(0, IL nl ex sz (ci a)), (1, IL nl' ex' sz' (ci b)), (5, GV 0 (ci l)), (6, .int .i64 (k : Int))] (GM (ci l)) = some (.exit 0, [(5, GV 0 (ci (l ++ thenN (a.drop k) b)))], GM (ci (l ++ thenN (a.drop k) b))) := by
  induction n with
  | zero =>
    intro k l hk hl
    rw [ref13_then.L0_eq]
    simp only [ref13_then.B0, beqT, beqF, exF_seq, exF_region, exF_block, exF_cond, exF_ret, exF_exit, exF_skip, runL, wantL, stepL, evL, LEnv.at, putL, loadFine, loadL, cellsAt, Trk.putNew, Trk.up, Trk.touch, Trk.gives, Trk.calm, Trk.hit, opdsOf, Trk.fresh, LEnv.keep, LEnv.ofFrom, List.map_cons, List.map_nil, nbeq, nble, nblt, ofAV, ofAVs, lenL, bin_add, bin_sub, bin_mul, bin_eql, bin_neq, bin_lss, bin_leq, bin_gtr, bin_geq, natL_nat, natL_zero, natL_one, natL_two, Nat.zero_mul, List.any_cons, List.any_nil, Bool.or_false, Bool.false_or, Bool.true_or, Bool.or_true, Bool.and_true, Bool.true_and, Bool.and_false, Bool.false_and, Bool.not_true, Bool.not_false, Nat.reduceBEq, Nat.reduceEqDiff, decide_true, decide_false, cond_true, cond_false, List.filter_nil, List.filter_cons, Nat.reduceAdd, Nat.reduceLeDiff, reduceCtorEq, List.length_nil, List.length_cons, Nat.mul_one, if_true, if_false, Bool.false_eq_true, eq_self, and_true, true_and, retL, resultsL, resAllL, resOfL, List.append_nil, List.nil_append, List.cons_append, true_or, or_true, false_or, or_false, false_and, and_false, not_true_eq_false, not_false_eq_true, ne_eq, unL, trim_nil, views_pures, LV.pures, LV.pure, freeze, Nat.reduceDiv, Int.reduceEq, Int.reduceLT, Int.reduceLE, Int.natCast_zero, LV.cells, allocL, List.getElem?_cons_zero, List.getElem?_cons_succ, storeL, spliceL, List.take_zero, List.take_succ_cons, List.drop_zero, List.drop_succ_cons, List.drop_nil, List.take_nil, Nat.le_refl, Nat.reduceMul, List.set_cons_zero, List.set_cons_succ, LV.scalar, List.all_cons, List.all_nil, Nat.lt_add_one, Nat.zero_lt_one, Nat.reduceLT, Nat.lt_irrefl, fillL, List.length_append, foldIntL, kind_beq, pures_int, solids_int, plains_int, unders_int, scalars_int, ci_len, show ¬ ((k : Int) < (a.length : Int)) by omega, List.drop_eq_nil_of_le (show a.length ≤ k by omega), thenN, List.map_nil]
  | succ n ih =>
    intro k l hk hl
    have h2 : k < a.length := by omega
    have h3 := ha _ (List.getElem_mem h2)
    have ih := ih (k + 1) (l ++ [b[a[k]]]) (by omega) (by simp; omega)
    have e : ci (l ++ [b[a[k]]]) = ci l ++ [((b[a[k]] : Nat) : Int)] := by simp
    have ap := append_grow0 (ci l) ((b[a[k]] : Nat) : Int) true (by rw [ci_len]; omega)
    rw [← e] at ap
    have e2 : l ++ thenN (a.drop k) b = (l ++ [b[a[k]]]) ++ thenN (a.drop (k + 1)) b := by
      rw [List.drop_eq_getElem_cons h2]
      show l ++ (nth b a[k] :: _) = _
      rw [nth_at b _ h3, List.append_assoc]; rfl
    rw [ref13_then.L0_eq, e2]
    simp only [IL, ci_len, ci_map] at ih ⊢
    simp only [ref13_then.B0, beqT, beqF, exF_seq, exF_region, exF_block, exF_cond, exF_ret, exF_exit, exF_skip, runL, wantL, stepL, evL, LEnv.at, putL, loadFine, loadL, cellsAt, Trk.putNew, Trk.up, Trk.touch, Trk.gives, Trk.calm, Trk.hit, opdsOf, Trk.fresh, LEnv.keep, LEnv.ofFrom, List.map_cons, List.map_nil, nbeq, nble, nblt, ofAV, ofAVs, lenL, bin_add, bin_sub, bin_mul, bin_eql, bin_neq, bin_lss, bin_leq, bin_gtr, bin_geq, natL_nat, natL_zero, natL_one, natL_two, Nat.zero_mul, List.any_cons, List.any_nil, Bool.or_false, Bool.false_or, Bool.true_or, Bool.or_true, Bool.and_true, Bool.true_and, Bool.and_false, Bool.false_and, Bool.not_true, Bool.not_false, Nat.reduceBEq, Nat.reduceEqDiff, decide_true, decide_false, cond_true, cond_false, List.filter_nil, List.filter_cons, Nat.reduceAdd, Nat.reduceLeDiff, reduceCtorEq, List.length_nil, List.length_cons, Nat.mul_one, if_true, if_false, Bool.false_eq_true, eq_self, and_true, true_and, retL, resultsL, resAllL, resOfL, List.append_nil, List.nil_append, List.cons_append, true_or, or_true, false_or, or_false, false_and, and_false, not_true_eq_false, not_false_eq_true, ne_eq, unL, trim_nil, views_pures, LV.pures, LV.pure, freeze, Nat.reduceDiv, Int.reduceEq, Int.reduceLT, Int.reduceLE, Int.natCast_zero, LV.cells, allocL, List.getElem?_cons_zero, List.getElem?_cons_succ, storeL, spliceL, List.take_zero, List.take_succ_cons, List.drop_zero, List.drop_succ_cons, List.drop_nil, List.take_nil, Nat.le_refl, Nat.reduceMul, List.set_cons_zero, List.set_cons_succ, LV.scalar, List.all_cons, List.all_nil, Nat.lt_add_one, Nat.zero_lt_one, Nat.reduceLT, Nat.lt_irrefl, fillL, List.length_append, foldIntL, kind_beq, pures_int, solids_int, plains_int, unders_int, scalars_int, show ((k : Int) < (a.length : Int)) by omega, h2, nat_at _ _ _ h2, h3, nat_at _ _ _ h3, ap, wrap_succ (show k + 1 < 9223372036854775808 by omega), ih]
theorem rthen_c (nl ex nl' ex' : Bool) (sz sz' : Nat) (a b : List Nat) (ha : ∀ x ∈ a, x < b.length) (hal : a.length ≤ 1000) (m : LMem) : clF LP n_ref13_then [IL nl ex sz (ci a), IL nl' ex' sz' (ci b)] m = some (.P, RLn (thenN a b), m) := by
  have h := rthen_loop nl ex nl' ex' sz sz' a b ha hal a.length 0 [] (by omega) (by simp)
  rw [List.nil_append, List.drop_zero] at h
  have h : exF LP ref13_then.L0 [(0, IL nl ex sz (ci a)), (1, IL nl' ex' sz' (ci b)), (5, .lst true true 0 0 []), (6, .int .i64 0)] [] = some (.exit 0, [(5, GV 0 (ci (thenN a b)))], GM (ci (thenN a b))) := h
  refine call_Pv lp_ref13_then rfl (by simp [LV.pures, LV.pure]) ?_ (view_grow0 37 (ci (thenN a b))) m
  simp only [ref13_then, ref13_then.B, beqT, beqF, exF_seq, exF_region, exF_block, exF_cond, exF_ret, exF_exit, exF_skip, runL, wantL, stepL, evL, LEnv.at, putL, loadFine, loadL, cellsAt, Trk.putNew, Trk.up, Trk.touch, Trk.gives, Trk.calm, Trk.hit, opdsOf, Trk.fresh, LEnv.keep, LEnv.ofFrom, List.map_cons, List.map_nil, nbeq, nble, nblt, ofAV, ofAVs, lenL, bin_add, bin_sub, bin_mul, bin_eql, bin_neq, bin_lss, bin_leq, bin_gtr, bin_geq, natL_nat, natL_zero, natL_one, natL_two, Nat.zero_mul, List.any_cons, List.any_nil, Bool.or_false, Bool.false_or, Bool.true_or, Bool.or_true, Bool.and_true, Bool.true_and, Bool.and_false, Bool.false_and, Bool.not_true, Bool.not_false, Nat.reduceBEq, Nat.reduceEqDiff, decide_true, decide_false, cond_true, cond_false, List.filter_nil, List.filter_cons, Nat.reduceAdd, Nat.reduceLeDiff, reduceCtorEq, List.length_nil, List.length_cons, Nat.mul_one, if_true, if_false, Bool.false_eq_true, eq_self, and_true, true_and, retL, resultsL, resAllL, resOfL, List.append_nil, List.nil_append, List.cons_append, true_or, or_true, false_or, or_false, false_and, and_false, not_true_eq_false, not_false_eq_true, ne_eq, unL, trim_nil, views_pures, LV.pures, LV.pure, freeze, Nat.reduceDiv, Int.reduceEq, Int.reduceLT, Int.reduceLE, Int.natCast_zero, LV.cells, allocL, List.getElem?_cons_zero, List.getElem?_cons_succ, storeL, spliceL, List.take_zero, List.take_succ_cons, List.drop_zero, List.drop_succ_cons, List.drop_nil, List.take_nil, Nat.le_refl, Nat.reduceMul, List.set_cons_zero, List.set_cons_succ, LV.scalar, List.all_cons, List.all_nil, Nat.lt_add_one, Nat.zero_lt_one, Nat.reduceLT, Nat.lt_irrefl, fillL, List.length_append, foldIntL, kind_beq, pures_int, solids_int, plains_int, unders_int, scalars_int, h]
theorem rsame_loop (nl ex nl' ex' : Bool) (sz sz' : Nat) (a b : List Nat) (hl : a.length = b.length) (hs : a.length < 1000000) (n : Nat) : ∀ k, k + n = a.length →
    exF LP ref13_same.L0 [(0, IL nl ex sz (ci a)), (1, IL nl' ex' sz' (ci b)), (5, .int .i64 (k : Int))] [] = if eqN (a.drop k) (b.drop k) then some (.exit 0, [], []) else some (.ret, [(4, .bool false)], []) := by
  induction n with
  | zero =>
    intro k hk
    rw [ref13_same.L0_eq]
    simp only [ref13_same.B0, beqT, beqF, exF_seq, exF_region, exF_block, exF_cond, exF_ret, exF_exit, exF_skip, runL, wantL, stepL, evL, LEnv.at, putL, loadFine, loadL, cellsAt, Trk.putNew, Trk.up, Trk.touch, Trk.gives, Trk.calm, Trk.hit, opdsOf, Trk.fresh, LEnv.keep, LEnv.ofFrom, List.map_cons, List.map_nil, nbeq, nble, nblt, ofAV, ofAVs, lenL, bin_add, bin_sub, bin_mul, bin_eql, bin_neq, bin_lss, bin_leq, bin_gtr, bin_geq, natL_nat, natL_zero, natL_one, natL_two, Nat.zero_mul, List.any_cons, List.any_nil, Bool.or_false, Bool.false_or, Bool.true_or, Bool.or_true, Bool.and_true, Bool.true_and, Bool.and_false, Bool.false_and, Bool.not_true, Bool.not_false, Nat.reduceBEq, Nat.reduceEqDiff, decide_true, decide_false, cond_true, cond_false, List.filter_nil, List.filter_cons, Nat.reduceAdd, Nat.reduceLeDiff, reduceCtorEq, List.length_nil, List.length_cons, Nat.mul_one, if_true, if_false, Bool.false_eq_true, eq_self, and_true, true_and, retL, resultsL, resAllL, resOfL, List.append_nil, List.nil_append, List.cons_append, true_or, or_true, false_or, or_false, false_and, and_false, not_true_eq_false, not_false_eq_true, ne_eq, unL, trim_nil, views_pures, LV.pures, LV.pure, freeze, Nat.reduceDiv, Int.reduceEq, Int.reduceLT, Int.reduceLE, Int.natCast_zero, LV.cells, allocL, List.getElem?_cons_zero, List.getElem?_cons_succ, storeL, spliceL, List.take_zero, List.take_succ_cons, List.drop_zero, List.drop_succ_cons, List.drop_nil, List.take_nil, Nat.le_refl, Nat.reduceMul, List.set_cons_zero, List.set_cons_succ, LV.scalar, List.all_cons, List.all_nil, Nat.lt_add_one, Nat.zero_lt_one, Nat.reduceLT, Nat.lt_irrefl, fillL, List.length_append, foldIntL, kind_beq, pures_int, solids_int, plains_int, unders_int, scalars_int, ci_len, show ¬ ((k : Int) < (a.length : Int)) by omega, List.drop_eq_nil_of_le (show a.length ≤ k by omega), List.drop_eq_nil_of_le (show b.length ≤ k by omega), eqN]
  | succ n ih =>
    intro k hk
    have h2 : k < a.length := by omega
    have h3 : k < b.length := by omega
    have ih := ih (k + 1) (by omega)
    rw [ref13_same.L0_eq, List.drop_eq_getElem_cons h2, List.drop_eq_getElem_cons h3, eqN]
    simp only [IL, ci_len, ci_map] at ih ⊢
    by_cases c : a[k] = b[k]
    · have c' : Nat.beq a[k] b[k] = true := by rw [c]; exact Nat.beq_refl _
      rw [c', cond_true]
      simp only [ref13_same.B0, beqT, beqF, exF_seq, exF_region, exF_block, exF_cond, exF_ret, exF_exit, exF_skip, runL, wantL, stepL, evL, LEnv.at, putL, loadFine, loadL, cellsAt, Trk.putNew, Trk.up, Trk.touch, Trk.gives, Trk.calm, Trk.hit, opdsOf, Trk.fresh, LEnv.keep, LEnv.ofFrom, List.map_cons, List.map_nil, nbeq, nble, nblt, ofAV, ofAVs, lenL, bin_add, bin_sub, bin_mul, bin_eql, bin_neq, bin_lss, bin_leq, bin_gtr, bin_geq, natL_nat, natL_zero, natL_one, natL_two, Nat.zero_mul, List.any_cons, List.any_nil, Bool.or_false, Bool.false_or, Bool.true_or, Bool.or_true, Bool.and_true, Bool.true_and, Bool.and_false, Bool.false_and, Bool.not_true, Bool.not_false, Nat.reduceBEq, Nat.reduceEqDiff, decide_true, decide_false, cond_true, cond_false, List.filter_nil, List.filter_cons, Nat.reduceAdd, Nat.reduceLeDiff, reduceCtorEq, List.length_nil, List.length_cons, Nat.mul_one, if_true, if_false, Bool.false_eq_true, eq_self, and_true, true_and, retL, resultsL, resAllL, resOfL, List.append_nil, List.nil_append, List.cons_append, true_or, or_true, false_or, or_false, false_and, and_false, not_true_eq_false, not_false_eq_true, ne_eq, unL, trim_nil, views_pures, LV.pures, LV.pure, freeze, Nat.reduceDiv, Int.reduceEq, Int.reduceLT, Int.reduceLE, Int.natCast_zero, LV.cells, allocL, List.getElem?_cons_zero, List.getElem?_cons_succ, storeL, spliceL, List.take_zero, List.take_succ_cons, List.drop_zero, List.drop_succ_cons, List.drop_nil, List.take_nil, Nat.le_refl, Nat.reduceMul, List.set_cons_zero, List.set_cons_succ, LV.scalar, List.all_cons, List.all_nil, Nat.lt_add_one, Nat.zero_lt_one, Nat.reduceLT, Nat.lt_irrefl, fillL, List.length_append, foldIntL, kind_beq, pures_int, solids_int, plains_int, unders_int, scalars_int, show ((k : Int) < (a.length : Int)) by omega, h2, h3, nat_at _ _ _ h2, nat_at _ _ _ h3, c, wrap_succ (show k + 1 < 9223372036854775808 by omega), ih]
    · have c' : Nat.beq a[k] b[k] = false := by rw [nbeq]; simpa using c
      have c2 : ¬ ((a[k] : Nat) : Int) = ((b[k] : Nat) : Int) := by omega
      rw [c', cond_false]
      simp only [ref13_same.B0, beqT, beqF, exF_seq, exF_region, exF_block, exF_cond, exF_ret, exF_exit, exF_skip, runL, wantL, stepL, evL, LEnv.at, putL, loadFine, loadL, cellsAt, Trk.putNew, Trk.up, Trk.touch, Trk.gives, Trk.calm, Trk.hit, opdsOf, Trk.fresh, LEnv.keep, LEnv.ofFrom, List.map_cons, List.map_nil, nbeq, nble, nblt, ofAV, ofAVs, lenL, bin_add, bin_sub, bin_mul, bin_eql, bin_neq, bin_lss, bin_leq, bin_gtr, bin_geq, natL_nat, natL_zero, natL_one, natL_two, Nat.zero_mul, List.any_cons, List.any_nil, Bool.or_false, Bool.false_or, Bool.true_or, Bool.or_true, Bool.and_true, Bool.true_and, Bool.and_false, Bool.false_and, Bool.not_true, Bool.not_false, Nat.reduceBEq, Nat.reduceEqDiff, decide_true, decide_false, cond_true, cond_false, List.filter_nil, List.filter_cons, Nat.reduceAdd, Nat.reduceLeDiff, reduceCtorEq, List.length_nil, List.length_cons, Nat.mul_one, if_true, if_false, Bool.false_eq_true, eq_self, and_true, true_and, retL, resultsL, resAllL, resOfL, List.append_nil, List.nil_append, List.cons_append, true_or, or_true, false_or, or_false, false_and, and_false, not_true_eq_false, not_false_eq_true, ne_eq, unL, trim_nil, views_pures, LV.pures, LV.pure, freeze, Nat.reduceDiv, Int.reduceEq, Int.reduceLT, Int.reduceLE, Int.natCast_zero, LV.cells, allocL, List.getElem?_cons_zero, List.getElem?_cons_succ, storeL, spliceL, List.take_zero, List.take_succ_cons, List.drop_zero, List.drop_succ_cons, List.drop_nil, List.take_nil, Nat.le_refl, Nat.reduceMul, List.set_cons_zero, List.set_cons_succ, LV.scalar, List.all_cons, List.all_nil, Nat.lt_add_one, Nat.zero_lt_one, Nat.reduceLT, Nat.lt_irrefl, fillL, List.length_append, foldIntL, kind_beq, pures_int, solids_int, plains_int, unders_int, scalars_int, show ((k : Int) < (a.length : Int)) by omega, h2, h3, nat_at _ _ _ h2, nat_at _ _ _ h3, c2]
theorem rsame_c (nl ex nl' ex' : Bool) (sz sz' : Nat) (a b : List Nat) (hl : a.length = b.length) (hs : a.length < 1000000) (m : LMem) : clF LP n_ref13_same [IL nl ex sz (ci a), IL nl' ex' sz' (ci b)] m = some (.P, .bool (eqN a b), m) := by
  refine call_P lp_ref13_same rfl (by simp [LV.pures, LV.pure]) (m1 := []) ?_ rfl m
  have h := rsame_loop nl ex nl' ex' sz sz' a b hl hs a.length 0 (by omega)
  simp only [Int.natCast_zero, List.drop_zero] at h
  cases hd : eqN a b <;> rw [hd] at h <;> simp only [ref13_same, ref13_same.B, beqT, beqF, exF_seq, exF_region, exF_block, exF_cond, exF_ret, exF_exit, exF_skip, runL, wantL, stepL, evL, LEnv.at, putL, loadFine, loadL, cellsAt, Trk.putNew, Trk.up, Trk.touch, Trk.gives, Trk.calm, Trk.hit, opdsOf, Trk.fresh, LEnv.keep, LEnv.ofFrom, List.map_cons, List.map_nil, nbeq, nble, nblt, ofAV, ofAVs, lenL, bin_add, bin_sub, bin_mul, bin_eql, bin_neq, bin_lss, bin_leq, bin_gtr, bin_geq, natL_nat, natL_zero, natL_one, natL_two, Nat.zero_mul, List.any_cons, List.any_nil, Bool.or_false, Bool.false_or, Bool.true_or, Bool.or_true, Bool.and_true, Bool.true_and, Bool.and_false, Bool.false_and, Bool.not_true, Bool.not_false, Nat.reduceBEq, Nat.reduceEqDiff, decide_true, decide_false, cond_true, cond_false, List.filter_nil, List.filter_cons, Nat.reduceAdd, Nat.reduceLeDiff, reduceCtorEq, List.length_nil, List.length_cons, Nat.mul_one, if_true, if_false, Bool.false_eq_true, eq_self, and_true, true_and, retL, resultsL, resAllL, resOfL, List.append_nil, List.nil_append, List.cons_append, true_or, or_true, false_or, or_false, false_and, and_false, not_true_eq_false, not_false_eq_true, ne_eq, unL, trim_nil, views_pures, LV.pures, LV.pure, freeze, Nat.reduceDiv, Int.reduceEq, Int.reduceLT, Int.reduceLE, Int.natCast_zero, LV.cells, allocL, List.getElem?_cons_zero, List.getElem?_cons_succ, storeL, spliceL, List.take_zero, List.take_succ_cons, List.drop_zero, List.drop_succ_cons, List.drop_nil, List.take_nil, Nat.le_refl, Nat.reduceMul, List.set_cons_zero, List.set_cons_succ, LV.scalar, List.all_cons, List.all_nil, Nat.lt_add_one, Nat.zero_lt_one, Nat.reduceLT, Nat.lt_irrefl, fillL, List.length_append, foldIntL, kind_beq, pures_int, solids_int, plains_int, unders_int, scalars_int, h]
end Go.Am.Wash

