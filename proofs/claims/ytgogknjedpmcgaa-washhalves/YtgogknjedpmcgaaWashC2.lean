/-
  What functions of chapter 13 compute, 2: rings.
-/
import Derived.Test.YtgogknjedpmcgaaWashC1
set_option linter.unusedVariables false
set_option linter.unusedSimpArgs false
set_option maxRecDepth 10000
namespace Go.Am.Wash
open Go.Am.G

theorem same_loop (nl ex nl' ex' : Bool) (sz sz' : Nat) (l : List Int) (hs : l.length < 1000000) (n : Nat) : ∀ k, k + n = l.length →
    exF LP law13_same.L0 [(0, IL nl ex sz l), (1, IL nl' ex' sz' l), (5, .int .i64 (k : Int))] [] = some (.exit 0, [], []) := by
  induction n with
  | zero =>
    intro k hk
    rw [law13_same.L0_eq]
    simp only [law13_same.B0, beqT, beqF, exF_seq, exF_region, exF_block, exF_cond, exF_ret, exF_exit, exF_skip, runL, wantL, stepL, evL, LEnv.at, putL, loadFine, loadL, cellsAt, Trk.putNew, Trk.up, Trk.touch, Trk.gives, Trk.calm, Trk.hit, opdsOf, Trk.fresh, LEnv.keep, LEnv.ofFrom, List.map_cons, List.map_nil, nbeq, nble, nblt, ofAV, ofAVs, lenL, bin_add, bin_sub, bin_mul, bin_eql, bin_neq, bin_lss, bin_leq, bin_gtr, bin_geq, natL_nat, natL_zero, natL_one, natL_two, Nat.zero_mul, List.any_cons, List.any_nil, Bool.or_false, Bool.false_or, Bool.true_or, Bool.or_true, Bool.and_true, Bool.true_and, Bool.and_false, Bool.false_and, Bool.not_true, Bool.not_false, Nat.reduceBEq, Nat.reduceEqDiff, decide_true, decide_false, cond_true, cond_false, List.filter_nil, List.filter_cons, Nat.reduceAdd, Nat.reduceLeDiff, reduceCtorEq, List.length_nil, List.length_cons, Nat.mul_one, if_true, if_false, Bool.false_eq_true, eq_self, and_true, true_and, retL, resultsL, resAllL, resOfL, List.append_nil, List.nil_append, List.cons_append, true_or, or_true, false_or, or_false, false_and, and_false, not_true_eq_false, not_false_eq_true, ne_eq, unL, trim_nil, views_pures, LV.pures, LV.pure, freeze, Nat.reduceDiv, Int.reduceEq, Int.reduceLT, Int.reduceLE, Int.natCast_zero, LV.cells, allocL, List.getElem?_cons_zero, List.getElem?_cons_succ, storeL, spliceL, List.take_zero, List.take_succ_cons, List.drop_zero, List.drop_succ_cons, List.drop_nil, List.take_nil, Nat.le_refl, Nat.reduceMul, List.set_cons_zero, List.set_cons_succ, LV.scalar, List.all_cons, List.all_nil, Nat.lt_add_one, Nat.zero_lt_one, Nat.reduceLT, Nat.lt_irrefl, fillL, List.length_append, foldIntL, kind_beq, pures_int, solids_int, plains_int, unders_int, scalars_int, show ¬ ((k : Int) < (l.length : Int)) by omega]
  | succ n ih =>
    intro k hk
    have h2 : k < l.length := by omega
    rw [law13_same.L0_eq]
    simp only [law13_same.B0, beqT, beqF, exF_seq, exF_region, exF_block, exF_cond, exF_ret, exF_exit, exF_skip, runL, wantL, stepL, evL, LEnv.at, putL, loadFine, loadL, cellsAt, Trk.putNew, Trk.up, Trk.touch, Trk.gives, Trk.calm, Trk.hit, opdsOf, Trk.fresh, LEnv.keep, LEnv.ofFrom, List.map_cons, List.map_nil, nbeq, nble, nblt, ofAV, ofAVs, lenL, bin_add, bin_sub, bin_mul, bin_eql, bin_neq, bin_lss, bin_leq, bin_gtr, bin_geq, natL_nat, natL_zero, natL_one, natL_two, Nat.zero_mul, List.any_cons, List.any_nil, Bool.or_false, Bool.false_or, Bool.true_or, Bool.or_true, Bool.and_true, Bool.true_and, Bool.and_false, Bool.false_and, Bool.not_true, Bool.not_false, Nat.reduceBEq, Nat.reduceEqDiff, decide_true, decide_false, cond_true, cond_false, List.filter_nil, List.filter_cons, Nat.reduceAdd, Nat.reduceLeDiff, reduceCtorEq, List.length_nil, List.length_cons, Nat.mul_one, if_true, if_false, Bool.false_eq_true, eq_self, and_true, true_and, retL, resultsL, resAllL, resOfL, List.append_nil, List.nil_append, List.cons_append, true_or, or_true, false_or, or_false, false_and, and_false, not_true_eq_false, not_false_eq_true, ne_eq, unL, trim_nil, views_pures, LV.pures, LV.pure, freeze, Nat.reduceDiv, Int.reduceEq, Int.reduceLT, Int.reduceLE, Int.natCast_zero, LV.cells, allocL, List.getElem?_cons_zero, List.getElem?_cons_succ, storeL, spliceL, List.take_zero, List.take_succ_cons, List.drop_zero, List.drop_succ_cons, List.drop_nil, List.take_nil, Nat.le_refl, Nat.reduceMul, List.set_cons_zero, List.set_cons_succ, LV.scalar, List.all_cons, List.all_nil, Nat.lt_add_one, Nat.zero_lt_one, Nat.reduceLT, Nat.lt_irrefl, fillL, List.length_append, foldIntL, kind_beq, pures_int, solids_int, plains_int, unders_int, scalars_int, show ((k : Int) < (l.length : Int)) by omega, h2, int_at _ _ _ h2, wrap_succ (show k + 1 < 9223372036854775808 by omega), ih (k + 1) (by omega)]
/-- A list is the same as itself. -/
theorem same_refl (nl ex nl' ex' : Bool) (sz sz' : Nat) (l : List Int) (hs : l.length < 1000000) (m : LMem) : clF LP n_law13_same [IL nl ex sz l, IL nl' ex' sz' l] m = some (.P, .bool true, m) := by
  refine call_P lp_law13_same rfl (by simp [LV.pures, LV.pure]) (m1 := []) ?_ rfl m
  have h := same_loop nl ex nl' ex' sz sz' l hs l.length 0 (by omega)
  simp only [Int.natCast_zero] at h
  simp only [law13_same, law13_same.B, beqT, beqF, exF_seq, exF_region, exF_block, exF_cond, exF_ret, exF_exit, exF_skip, runL, wantL, stepL, evL, LEnv.at, putL, loadFine, loadL, cellsAt, Trk.putNew, Trk.up, Trk.touch, Trk.gives, Trk.calm, Trk.hit, opdsOf, Trk.fresh, LEnv.keep, LEnv.ofFrom, List.map_cons, List.map_nil, nbeq, nble, nblt, ofAV, ofAVs, lenL, bin_add, bin_sub, bin_mul, bin_eql, bin_neq, bin_lss, bin_leq, bin_gtr, bin_geq, natL_nat, natL_zero, natL_one, natL_two, Nat.zero_mul, List.any_cons, List.any_nil, Bool.or_false, Bool.false_or, Bool.true_or, Bool.or_true, Bool.and_true, Bool.true_and, Bool.and_false, Bool.false_and, Bool.not_true, Bool.not_false, Nat.reduceBEq, Nat.reduceEqDiff, decide_true, decide_false, cond_true, cond_false, List.filter_nil, List.filter_cons, Nat.reduceAdd, Nat.reduceLeDiff, reduceCtorEq, List.length_nil, List.length_cons, Nat.mul_one, if_true, if_false, Bool.false_eq_true, eq_self, and_true, true_and, retL, resultsL, resAllL, resOfL, List.append_nil, List.nil_append, List.cons_append, true_or, or_true, false_or, or_false, false_and, and_false, not_true_eq_false, not_false_eq_true, ne_eq, unL, trim_nil, views_pures, LV.pures, LV.pure, freeze, Nat.reduceDiv, Int.reduceEq, Int.reduceLT, Int.reduceLE, Int.natCast_zero, LV.cells, allocL, List.getElem?_cons_zero, List.getElem?_cons_succ, storeL, spliceL, List.take_zero, List.take_succ_cons, List.drop_zero, List.drop_succ_cons, List.drop_nil, List.take_nil, Nat.le_refl, Nat.reduceMul, List.set_cons_zero, List.set_cons_succ, LV.scalar, List.all_cons, List.all_nil, Nat.lt_add_one, Nat.zero_lt_one, Nat.reduceLT, Nat.lt_irrefl, fillL, List.length_append, foldIntL, kind_beq, pures_int, solids_int, plains_int, unders_int, scalars_int, h]
abbrev rowsL (L : List (List Nat)) : List LV := L.map RLn
theorem rowsL_pures : ∀ L : List (List Nat), LV.pures (rowsL L) = true
  | [] => rfl
  | a :: r => by
    have := rowsL_pures r
    simp only [rowsL, List.map_cons, LV.pures, LV.pure, Bool.true_and] at *
    exact this
theorem rowsL_at (L : List (List Nat)) (i : Nat) (h : i < L.length) : (rowsL L)[i]? = some (RLn L[i]) := by rw [List.getElem?_map, List.getElem?_eq_getElem h]; rfl
/-! ### The program's rings -/
theorem nth_at (t : List Nat) (i : Nat) (h : i < t.length) : nth t i = t[i] := by rw [nth_getD]; simp [List.getD_eq_getElem?_getD, h]
theorem walk_loop (nl ex : Bool) (sz : Nat) (t : List Nat) (h7 : t.length ≤ 7) (hlt : ∀ x ∈ t, x < 7) (vo w8 w9 : LV) (l' : List Nat) (met' : Nat) (f : Nat) : ∀ (met p : Nat) (l : List Nat) (m : LMem) (b : Nat), walkF t f met p l = some (l', met') → met < 128 → p < 7 → l.length + f ≤ 1000 → (l ≠ [] → m[b]? = some ⟨ints (ci l), true⟩) →
    ∃ m' b', exF LP wash_rings.L0 [(0, IL nl ex sz (ci t)), (3, vo), (4, .int .i64 (met : Int)), (5, .int .i64 (p : Int)), (6, GV b (ci l)), (8, w8), (9, w9)] m = some (.exit 2, [(0, IL nl ex sz (ci t)), (3, vo), (4, .int .i64 (met' : Int)), (6, GV b' (ci l')), (8, w8), (9, w9)], m') ∧
      (l' ≠ [] → m'[b']? = some ⟨ints (ci l'), true⟩) ∧ (∀ i, i < m.length → (l = [] ∨ i ≠ b) → m'[i]? = m[i]?) ∧ m.length ≤ m'.length ∧ (l = [] → l' ≠ [] → m.length ≤ b') ∧ (l ≠ [] → b' = b) ∧ met' < 128 := by
  induction f with
  | zero => intro met p l m b h; cases h
  | succ f ih =>
    intro met p l m b h hmet hp hlen hb
    rw [walkF] at h
    have hd : met / 2 ^ p < 4294967296 := Nat.lt_of_le_of_lt (Nat.div_le_self _ _) (by omega)
    by_cases c : met / 2 ^ p % 2 = 0
    · have c' : ((met / 2 ^ p % 2 : Nat) : Int) = 0 := by omega
      rw [c] at h
      simp only [Nat.beq_refl, cond_true] at h
      by_cases c2 : p < t.length
      · have e2 : Nat.blt p t.length = true := by rw [nblt]; simpa using c2
        rw [e2, cond_true] at h
        have hpt : t[p] < 7 := hlt _ (List.getElem_mem c2)
        rw [nth_at t p c2] at h
        obtain ⟨m1, b1, e, e1, e3, e4, e5, e6⟩ := app_any m b (ci l) (p : Int) true (by rw [ci_len]; omega) (fun h => hb (by intro c; apply h; simp [c]))
        have el : ci l ++ [(p : Int)] = ci (l ++ [p]) := by simp
        rw [el] at e e1
        obtain ⟨m2, b2, g1, g2, g3, g4, g5, g7, g6⟩ := ih (met ||| 2 ^ p) t[p] (l ++ [p]) m1 b1 h (Nat.or_lt_two_pow (n := 7) hmet (Nat.pow_lt_pow_right (by omega) hp)) hpt (by simp; omega) (fun _ => e1)
        have o := sor (show met < 4294967296 by omega) (show 2 ^ p < 4294967296 from Nat.lt_of_lt_of_le (Nat.pow_lt_pow_right (by omega) (show p < 32 by omega)) (by omega))
        refine ⟨m2, b2, ?_, g2, fun i hi hc => ?_, by omega, fun hl hl' => ?_, fun hl => ?_, g6⟩
        · rw [wash_rings.L0_eq]
          simp only [IL, ci_len, ci_map] at g1 ⊢
          simp only [wash_rings.B0, beqT, beqF, exF_seq, exF_region, exF_block, exF_cond, exF_ret, exF_exit, exF_skip, runL, wantL, stepL, evL, LEnv.at, putL, loadFine, loadL, cellsAt, Trk.putNew, Trk.up, Trk.touch, Trk.gives, Trk.calm, Trk.hit, opdsOf, Trk.fresh, LEnv.keep, LEnv.ofFrom, List.map_cons, List.map_nil, nbeq, nble, nblt, ofAV, ofAVs, lenL, bin_add, bin_sub, bin_mul, bin_eql, bin_neq, bin_lss, bin_leq, bin_gtr, bin_geq, natL_nat, natL_zero, natL_one, natL_two, Nat.zero_mul, List.any_cons, List.any_nil, Bool.or_false, Bool.false_or, Bool.true_or, Bool.or_true, Bool.and_true, Bool.true_and, Bool.and_false, Bool.false_and, Bool.not_true, Bool.not_false, Nat.reduceBEq, Nat.reduceEqDiff, decide_true, decide_false, cond_true, cond_false, List.filter_nil, List.filter_cons, Nat.reduceAdd, Nat.reduceLeDiff, reduceCtorEq, List.length_nil, List.length_cons, Nat.mul_one, if_true, if_false, Bool.false_eq_true, eq_self, and_true, true_and, retL, resultsL, resAllL, resOfL, List.append_nil, List.nil_append, List.cons_append, true_or, or_true, false_or, or_false, false_and, and_false, not_true_eq_false, not_false_eq_true, ne_eq, unL, trim_nil, views_pures, LV.pures, LV.pure, freeze, Nat.reduceDiv, Int.reduceEq, Int.reduceLT, Int.reduceLE, Int.natCast_zero, LV.cells, allocL, List.getElem?_cons_zero, List.getElem?_cons_succ, storeL, spliceL, List.take_zero, List.take_succ_cons, List.drop_zero, List.drop_succ_cons, List.drop_nil, List.take_nil, Nat.le_refl, Nat.reduceMul, List.set_cons_zero, List.set_cons_succ, LV.scalar, List.all_cons, List.all_nil, Nat.lt_add_one, Nat.zero_lt_one, Nat.reduceLT, Nat.lt_irrefl, fillL, List.length_append, foldIntL, kind_beq, pures_int, solids_int, plains_int, unders_int, scalars_int, sshr (a := met) (show p < 64 by omega), sand1 hd, c', sshl (show p < 32 by omega), o, e, c2, nat_at _ _ _ c2, g1]
        · rw [g3 i (by omega) (.inr ?_)]
          · exact e3 i (by
              rcases hc with hc | hc
              · right; simp [hc]
              · exact .inl hc) hi
          · rcases hc with hc | hc
            · have := e5 (by simp [hc]); omega
            · by_cases hln : l = []
              · have := e5 (by simp [hln]); omega
              · have := e6 (by intro c; apply hln; simpa using c); omega
        · -- the list began here
          have hb1 := e5 (by simp [hl])
          have := g7 (by simp)
          omega
        · have := e6 (by intro c; apply hl; simpa using c)
          have := g7 (by simp)
          omega
      · have e2 : Nat.blt p t.length = false := by rw [nblt]; simpa using c2
        rw [e2] at h; cases h
    · have c' : ¬ ((met / 2 ^ p % 2 : Nat) : Int) = 0 := by omega
      have e2 : Nat.beq (met / 2 ^ p % 2) 0 = false := by rw [nbeq]; simpa using c
      rw [e2, cond_false] at h
      have h := Option.some.inj h
      obtain ⟨rfl, rfl⟩ := Prod.mk.inj h
      refine ⟨m, b, ?_, hb, fun _ _ _ => rfl, Nat.le_refl _, fun h1 h2 => absurd h1 h2, fun _ => rfl, hmet⟩
      rw [wash_rings.L0_eq]
      simp only [wash_rings.B0, beqT, beqF, exF_seq, exF_region, exF_block, exF_cond, exF_ret, exF_exit, exF_skip, runL, wantL, stepL, evL, LEnv.at, putL, loadFine, loadL, cellsAt, Trk.putNew, Trk.up, Trk.touch, Trk.gives, Trk.calm, Trk.hit, opdsOf, Trk.fresh, LEnv.keep, LEnv.ofFrom, List.map_cons, List.map_nil, nbeq, nble, nblt, ofAV, ofAVs, lenL, bin_add, bin_sub, bin_mul, bin_eql, bin_neq, bin_lss, bin_leq, bin_gtr, bin_geq, natL_nat, natL_zero, natL_one, natL_two, Nat.zero_mul, List.any_cons, List.any_nil, Bool.or_false, Bool.false_or, Bool.true_or, Bool.or_true, Bool.and_true, Bool.true_and, Bool.and_false, Bool.false_and, Bool.not_true, Bool.not_false, Nat.reduceBEq, Nat.reduceEqDiff, decide_true, decide_false, cond_true, cond_false, List.filter_nil, List.filter_cons, Nat.reduceAdd, Nat.reduceLeDiff, reduceCtorEq, List.length_nil, List.length_cons, Nat.mul_one, if_true, if_false, Bool.false_eq_true, eq_self, and_true, true_and, retL, resultsL, resAllL, resOfL, List.append_nil, List.nil_append, List.cons_append, true_or, or_true, false_or, or_false, false_and, and_false, not_true_eq_false, not_false_eq_true, ne_eq, unL, trim_nil, views_pures, LV.pures, LV.pure, freeze, Nat.reduceDiv, Int.reduceEq, Int.reduceLT, Int.reduceLE, Int.natCast_zero, LV.cells, allocL, List.getElem?_cons_zero, List.getElem?_cons_succ, storeL, spliceL, List.take_zero, List.take_succ_cons, List.drop_zero, List.drop_succ_cons, List.drop_nil, List.take_nil, Nat.le_refl, Nat.reduceMul, List.set_cons_zero, List.set_cons_succ, LV.scalar, List.all_cons, List.all_nil, Nat.lt_add_one, Nat.zero_lt_one, Nat.reduceLT, Nat.lt_irrefl, fillL, List.length_append, foldIntL, kind_beq, pures_int, solids_int, plains_int, unders_int, scalars_int, sshr (a := met) (show p < 64 by omega), sand1 hd, c']
theorem row_app {m : LMem} {v : LV} {out : List (List Nat)} (h : Lst m v 1 out.length (rowsL out)) (l : List Nat) (hl : out.length < 1000000) :
    ∃ v' m', appendL m 1 24 v (.lst false true 1 1 [RLn l]) = some (v', m') ∧ Lst m' v' 1 (out ++ [l]).length (rowsL (out ++ [l])) := by
  obtain ⟨v', m', h1, h2, _⟩ := h.append (x := .lst false true 1 1 [RLn l]) (k := 1) (bytes := 24) (news := [RLn l]) rfl rfl (by omega) (by omega) rfl
  refine ⟨v', m', h1, ?_⟩
  have e : rowsL (out ++ [l]) = rowsL out ++ [RLn l] := by simp [rowsL]
  rw [e, List.length_append]
  exact h2
theorem rings_loop (nl ex : Bool) (sz : Nat) (t : List Nat) (h7 : t.length ≤ 7) (hlt : ∀ x ∈ t, x < 7) (R : List (List Nat)) (n : Nat) : ∀ (k met : Nat) (out : List (List Nat)) (v : LV) (m : LMem), k + n = t.length → ringsG t n k met out = some R → met < 128 → Lst m v 1 out.length (rowsL out) → out.length ≤ k →
    ∃ v' m', exF LP wash_rings.L1 [(0, IL nl ex sz (ci t)), (3, v), (4, .int .i64 (met : Int)), (8, .int .i64 (t.length : Int)), (9, .int .i64 (k : Int))] m = some (.exit 0, [(3, v')], m') ∧ Lst m' v' 1 R.length (rowsL R) := by
  induction n with
  | zero =>
    intro k met out v m hk h hmet hv ho
    have h := Option.some.inj h
    subst h
    refine ⟨v, m, ?_, hv⟩
    rw [wash_rings.L1_eq]
    simp only [wash_rings.B1, beqT, beqF, exF_seq, exF_region, exF_block, exF_cond, exF_ret, exF_exit, exF_skip, runL, wantL, stepL, evL, LEnv.at, putL, loadFine, loadL, cellsAt, Trk.putNew, Trk.up, Trk.touch, Trk.gives, Trk.calm, Trk.hit, opdsOf, Trk.fresh, LEnv.keep, LEnv.ofFrom, List.map_cons, List.map_nil, nbeq, nble, nblt, ofAV, ofAVs, lenL, bin_add, bin_sub, bin_mul, bin_eql, bin_neq, bin_lss, bin_leq, bin_gtr, bin_geq, natL_nat, natL_zero, natL_one, natL_two, Nat.zero_mul, List.any_cons, List.any_nil, Bool.or_false, Bool.false_or, Bool.true_or, Bool.or_true, Bool.and_true, Bool.true_and, Bool.and_false, Bool.false_and, Bool.not_true, Bool.not_false, Nat.reduceBEq, Nat.reduceEqDiff, decide_true, decide_false, cond_true, cond_false, List.filter_nil, List.filter_cons, Nat.reduceAdd, Nat.reduceLeDiff, reduceCtorEq, List.length_nil, List.length_cons, Nat.mul_one, if_true, if_false, Bool.false_eq_true, eq_self, and_true, true_and, retL, resultsL, resAllL, resOfL, List.append_nil, List.nil_append, List.cons_append, true_or, or_true, false_or, or_false, false_and, and_false, not_true_eq_false, not_false_eq_true, ne_eq, unL, trim_nil, views_pures, LV.pures, LV.pure, freeze, Nat.reduceDiv, Int.reduceEq, Int.reduceLT, Int.reduceLE, Int.natCast_zero, LV.cells, allocL, List.getElem?_cons_zero, List.getElem?_cons_succ, storeL, spliceL, List.take_zero, List.take_succ_cons, List.drop_zero, List.drop_succ_cons, List.drop_nil, List.take_nil, Nat.le_refl, Nat.reduceMul, List.set_cons_zero, List.set_cons_succ, LV.scalar, List.all_cons, List.all_nil, Nat.lt_add_one, Nat.zero_lt_one, Nat.reduceLT, Nat.lt_irrefl, fillL, List.length_append, foldIntL, kind_beq, pures_int, solids_int, plains_int, unders_int, scalars_int, show ¬ ((k : Int) < (t.length : Int)) by omega]
  | succ n ih =>
    intro k met out v m hk h hmet hv ho
    rw [ringsG] at h
    cases hw : walkF t 9 met k [] with
    | none => rw [hw] at h; cases h
    | some r =>
      obtain ⟨l, met'⟩ := r
      rw [hw] at h
      simp only at h
      obtain ⟨m1, b1, e1, e2, e3, e4, e5, _, e6⟩ := walk_loop nl ex sz t h7 hlt v (.int .i64 (t.length : Int)) (.int .i64 (k : Int)) l met' 9 met k [] m 0 hw hmet (by omega) (by simp) (fun c => absurd rfl c)
      have e1 : exF LP wash_rings.L0 [(0, IL nl ex sz (ci t)), (3, v), (4, .int .i64 (met : Int)), (5, .int .i64 (k : Int)), (6, .lst true true 0 0 []), (8, .int .i64 (t.length : Int)), (9, .int .i64 (k : Int))] m = _ := e1
      cases l with
      | nil =>
        have hv1 : Lst m1 v 1 out.length (rowsL out) := hv.mono fun i hi => e3 i (hv.lt i hi) (.inl rfl)
        obtain ⟨v', m', g1, g2⟩ := ih (k + 1) met' out v m1 (by omega) h e6 hv1 (by omega)
        refine ⟨v', m', ?_, g2⟩
        have e1 : exF LP wash_rings.L0 [(0, IL nl ex sz (ci t)), (3, v), (4, .int .i64 (met : Int)), (5, .int .i64 (k : Int)), (6, .lst true true 0 0 []), (8, .int .i64 (t.length : Int)), (9, .int .i64 (k : Int))] m = some (.exit 2, [(0, IL nl ex sz (ci t)), (3, v), (4, .int .i64 (met' : Int)), (6, .lst true true 0 0 []), (8, .int .i64 (t.length : Int)), (9, .int .i64 (k : Int))], m1) := e1
        rw [wash_rings.L1_eq]
        simp only [wash_rings.B1, beqT, beqF, exF_seq, exF_region, exF_block, exF_cond, exF_ret, exF_exit, exF_skip, runL, wantL, stepL, evL, LEnv.at, putL, loadFine, loadL, cellsAt, Trk.putNew, Trk.up, Trk.touch, Trk.gives, Trk.calm, Trk.hit, opdsOf, Trk.fresh, LEnv.keep, LEnv.ofFrom, List.map_cons, List.map_nil, nbeq, nble, nblt, ofAV, ofAVs, lenL, bin_add, bin_sub, bin_mul, bin_eql, bin_neq, bin_lss, bin_leq, bin_gtr, bin_geq, natL_nat, natL_zero, natL_one, natL_two, Nat.zero_mul, List.any_cons, List.any_nil, Bool.or_false, Bool.false_or, Bool.true_or, Bool.or_true, Bool.and_true, Bool.true_and, Bool.and_false, Bool.false_and, Bool.not_true, Bool.not_false, Nat.reduceBEq, Nat.reduceEqDiff, decide_true, decide_false, cond_true, cond_false, List.filter_nil, List.filter_cons, Nat.reduceAdd, Nat.reduceLeDiff, reduceCtorEq, List.length_nil, List.length_cons, Nat.mul_one, if_true, if_false, Bool.false_eq_true, eq_self, and_true, true_and, retL, resultsL, resAllL, resOfL, List.append_nil, List.nil_append, List.cons_append, true_or, or_true, false_or, or_false, false_and, and_false, not_true_eq_false, not_false_eq_true, ne_eq, unL, trim_nil, views_pures, LV.pures, LV.pure, freeze, Nat.reduceDiv, Int.reduceEq, Int.reduceLT, Int.reduceLE, Int.natCast_zero, LV.cells, allocL, List.getElem?_cons_zero, List.getElem?_cons_succ, storeL, spliceL, List.take_zero, List.take_succ_cons, List.drop_zero, List.drop_succ_cons, List.drop_nil, List.take_nil, Nat.le_refl, Nat.reduceMul, List.set_cons_zero, List.set_cons_succ, LV.scalar, List.all_cons, List.all_nil, Nat.lt_add_one, Nat.zero_lt_one, Nat.reduceLT, Nat.lt_irrefl, fillL, List.length_append, foldIntL, kind_beq, pures_int, solids_int, plains_int, unders_int, scalars_int, show ((k : Int) < (t.length : Int)) by omega, e1, eqsL, nilOf, Bool.xor_true, Bool.true_xor, wrap_succ (show k + 1 < 9223372036854775808 by omega), g1]
      | cons a r =>
        have hne : (a :: r) ≠ [] := by simp
        generalize (a :: r) = l at *
        have ha : addRow out l = out ++ [l] := by cases l with
          | nil => exact absurd rfl hne
          | cons a r => rfl
        rw [ha] at h
        have hcn : ci l ≠ [] := by intro c; apply hne; simpa using c
        have hb1 := e5 rfl hne
        have hvw : views m1 [GV b1 (ci l)] = some ([RLn l], [b1]) := by
          have h1 := fun k => view_gv k m1 b1 (ci l) true (fun _ => e2 hne)
          simp only [if_neg hcn] at h1
          exact views_one 32 _ _ _ _ h1 (by simp [LV.pures, LV.pure, GV, hcn])
        have hv1 : Lst (freeze [b1] m1) v 1 out.length (rowsL out) := hv.mono fun i hi => by
          have := hv.lt i hi
          rw [Go.Am.G.freeze_get i [b1] m1 (by simp; omega)]
          exact e3 i this (.inl rfl)
        obtain ⟨v2, m2, f1, f2⟩ := row_app hv1 l (by omega)
        obtain ⟨v', m', g1, g2⟩ := ih (k + 1) met' (out ++ [l]) v2 m2 (by omega) h e6 f2 (by simp; omega)
        refine ⟨v', m', ?_, g2⟩
        have hcells : (GV b1 (ci l)).cells = some [GV b1 (ci l)] := by simp [GV, hcn, LV.cells]
        have hnil : nilOf (GV b1 (ci l)) = some false := by simp [GV, hcn, nilOf]
        rw [wash_rings.L1_eq]
        simp only [wash_rings.B1, beqT, beqF, exF_seq, exF_region, exF_block, exF_cond, exF_ret, exF_exit, exF_skip, runL, wantL, stepL, evL, LEnv.at, putL, loadFine, loadL, cellsAt, Trk.putNew, Trk.up, Trk.touch, Trk.gives, Trk.calm, Trk.hit, opdsOf, Trk.fresh, LEnv.keep, LEnv.ofFrom, List.map_cons, List.map_nil, nbeq, nble, nblt, ofAV, ofAVs, lenL, bin_add, bin_sub, bin_mul, bin_eql, bin_neq, bin_lss, bin_leq, bin_gtr, bin_geq, natL_nat, natL_zero, natL_one, natL_two, Nat.zero_mul, List.any_cons, List.any_nil, Bool.or_false, Bool.false_or, Bool.true_or, Bool.or_true, Bool.and_true, Bool.true_and, Bool.and_false, Bool.false_and, Bool.not_true, Bool.not_false, Nat.reduceBEq, Nat.reduceEqDiff, decide_true, decide_false, cond_true, cond_false, List.filter_nil, List.filter_cons, Nat.reduceAdd, Nat.reduceLeDiff, reduceCtorEq, List.length_nil, List.length_cons, Nat.mul_one, if_true, if_false, Bool.false_eq_true, eq_self, and_true, true_and, retL, resultsL, resAllL, resOfL, List.append_nil, List.nil_append, true_or, or_true, false_or, or_false, false_and, and_false, not_true_eq_false, not_false_eq_true, ne_eq, unL, trim_nil, LV.pures, LV.pure, Nat.reduceDiv, Int.reduceEq, Int.reduceLT, Int.reduceLE, Int.natCast_zero, allocL, List.getElem?_cons_zero, List.getElem?_cons_succ, storeL, spliceL, List.take_zero, List.take_succ_cons, List.drop_zero, List.drop_succ_cons, List.drop_nil, List.take_nil, Nat.le_refl, Nat.reduceMul, List.set_cons_zero, List.set_cons_succ, LV.scalar, List.all_cons, List.all_nil, Nat.lt_add_one, Nat.zero_lt_one, Nat.reduceLT, Nat.lt_irrefl, fillL, foldIntL, kind_beq, pures_int, solids_int, plains_int, unders_int, scalars_int, show ((k : Int) < (t.length : Int)) by omega, e1, eqsL, hnil, show nilOf (.lst true true 0 0 []) = some true from rfl, Bool.xor_true, Bool.true_xor, hcells, hvw, f1, wrap_succ (show k + 1 < 9223372036854775808 by omega), g1]
theorem rings_c (nl ex : Bool) (sz : Nat) (t : List Nat) (h7 : t.length ≤ 7) (hlt : ∀ x ∈ t, x < 7) (R : List (List Nat)) (h : ringsP t = some R) (h0 : R ≠ []) : ∃ a b, ∀ m, clF LP n_wash_rings [IL nl ex sz (ci t)] m = some (.P, .lst a b 1 R.length (rowsL R), m) := by
  obtain ⟨v, m1, h1, h2⟩ := rings_loop nl ex sz t h7 hlt R t.length 0 0 [] (.lst true true 0 0 []) [] (by omega) h (by omega) (Lst.nil _ _) (by simp)
  obtain ⟨a, b, c, ids, hc, _, _, hv⟩ := h2.view (rowsL_pures _) (by omega)
  obtain rfl : c = 1 := by
    rcases hc with c | c
    · exact absurd (List.length_eq_zero_iff.1 c) h0
    · exact c
  simp only [Int.natCast_zero] at h1
  refine ⟨a, b, fun m => call_Pv lp_wash_rings rfl (by simp [LV.pures, LV.pure]) ?_ (hv 37) m⟩
  simp only [IL, ci_len] at h1 ⊢
  simp only [wash_rings, wash_rings.B, beqT, beqF, exF_seq, exF_region, exF_block, exF_cond, exF_ret, exF_exit, exF_skip, runL, wantL, stepL, evL, LEnv.at, putL, loadFine, loadL, cellsAt, Trk.putNew, Trk.up, Trk.touch, Trk.gives, Trk.calm, Trk.hit, opdsOf, Trk.fresh, LEnv.keep, LEnv.ofFrom, List.map_cons, List.map_nil, nbeq, nble, nblt, ofAV, ofAVs, lenL, bin_add, bin_sub, bin_mul, bin_eql, bin_neq, bin_lss, bin_leq, bin_gtr, bin_geq, natL_nat, natL_zero, natL_one, natL_two, Nat.zero_mul, List.any_cons, List.any_nil, Bool.or_false, Bool.false_or, Bool.true_or, Bool.or_true, Bool.and_true, Bool.true_and, Bool.and_false, Bool.false_and, Bool.not_true, Bool.not_false, Nat.reduceBEq, Nat.reduceEqDiff, decide_true, decide_false, cond_true, cond_false, List.filter_nil, List.filter_cons, Nat.reduceAdd, Nat.reduceLeDiff, reduceCtorEq, List.length_nil, List.length_cons, Nat.mul_one, if_true, if_false, Bool.false_eq_true, eq_self, and_true, true_and, retL, resultsL, resAllL, resOfL, List.append_nil, List.nil_append, List.cons_append, true_or, or_true, false_or, or_false, false_and, and_false, not_true_eq_false, not_false_eq_true, ne_eq, unL, trim_nil, views_pures, LV.pures, LV.pure, freeze, Nat.reduceDiv, Int.reduceEq, Int.reduceLT, Int.reduceLE, Int.natCast_zero, LV.cells, allocL, List.getElem?_cons_zero, List.getElem?_cons_succ, storeL, spliceL, List.take_zero, List.take_succ_cons, List.drop_zero, List.drop_succ_cons, List.drop_nil, List.take_nil, Nat.le_refl, Nat.reduceMul, List.set_cons_zero, List.set_cons_succ, LV.scalar, List.all_cons, List.all_nil, Nat.lt_add_one, Nat.zero_lt_one, Nat.reduceLT, Nat.lt_irrefl, fillL, List.length_append, foldIntL, kind_beq, pures_int, solids_int, plains_int, unders_int, scalars_int, h1]
end Go.Am.Wash

