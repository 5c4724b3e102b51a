/-
  What functions of chapter 04 compute, 4: what it costs that a form comes behind some.
-/
import Derived.Test.YtheppipmnfjdcaaRingP1
import Derived.Test.YtheppipmnfjdcaaLm13
set_option linter.unusedVariables false
set_option linter.unusedSimpArgs false
set_option maxRecDepth 10000
namespace Go.Am.Ring
open Go.Am.G

/-- How often each pair of forms is found, in the program's table. -/
def ltL (P : List (Nat × Nat)) : List Int := (List.range 36).map fun i : Nat => ((P.count (i / 6, i % 6) : Nat) : Int)
theorem ltL_len (P : List (Nat × Nat)) : (ltL P).length = 36 := by simp [ltL]
theorem ltL_at (P : List (Nat × Nat)) (x y : Nat) (hx : x < 6) (hy : y < 6) : (ltL P)[x * 6 + y]? = some ((P.count (x, y) : Nat) : Int) := by
  have h1 : (x * 6 + y) / 6 = x := by omega
  have h2 : (x * 6 + y) % 6 = y := by omega
  simp [ltL, show x * 6 + y < 36 by omega, h1, h2]
theorem ltL_snoc (P : List (Nat × Nat)) (x y : Nat) (hx : x < 6) (hy : y < 6) : ltL (P ++ [(x, y)]) = (ltL P).set (x * 6 + y) (((P.count (x, y) : Nat) : Int) + 1) := by
  apply List.ext_getElem?
  intro i
  by_cases hi : i < 36
  · rw [List.getElem?_set, ltL_len]
    by_cases c : x * 6 + y = i
    · subst c
      rw [if_pos rfl, if_pos hi, ltL_at _ x y hx hy, List.count_append]
      simp
    · rw [if_neg c]
      simp only [ltL, List.getElem?_map, List.getElem?_range hi, Option.map_some, List.count_append]
      have : ((x, y) == (i / 6, i % 6)) = false := by
        rw [beq_eq_false_iff_ne]
        intro e
        simp only [Prod.mk.injEq] at e
        omega
      simp [List.count_cons, this]
  · rw [List.getElem?_eq_none (by rw [ltL_len]; omega), List.getElem?_eq_none (by simp [ltL_len]; omega)]
def cellsT (n : Nat) (lt : List Int) (may : LV) (fe wa : LV) : List LV := .int .i64 (n : Int) :: (lt.map (LV.int .i64) ++ [may, fe, wa])
theorem cT_len (n : Nat) (lt : List Int) (may fe wa : LV) (h : lt.length = 36) : (cellsT n lt may fe wa).length = 40 := by simp [cellsT, h]
theorem cT_0 (n : Nat) (lt : List Int) (may fe wa : LV) : (cellsT n lt may fe wa)[0]? = some (.int .i64 (n : Int)) := rfl
theorem cT_lt (n : Nat) (lt : List Int) (may fe wa : LV) (h : lt.length = 36) (i : Nat) (v : Int) (hi : lt[i]? = some v) : (cellsT n lt may fe wa)[1 + i]? = some (.int .i64 v) := by
  have hl : i < lt.length := by
    rcases Nat.lt_or_ge i lt.length with c | c
    · exact c
    · rw [List.getElem?_eq_none c] at hi; cases hi
  rw [cellsT, Nat.add_comm, List.getElem?_cons_succ, List.getElem?_append_left (by simpa using hl), List.getElem?_map, hi]
  rfl
theorem cT_38 (n : Nat) (lt : List Int) (may fe wa : LV) (h : lt.length = 36) : (cellsT n lt may fe wa)[38]? = some fe := by
  rw [cellsT, List.getElem?_cons_succ, List.getElem?_append_right (by simp [h])]
  simp [h]
theorem cT_39 (n : Nat) (lt : List Int) (may fe wa : LV) (h : lt.length = 36) : (cellsT n lt may fe wa)[39]? = some wa := by
  rw [cellsT, List.getElem?_cons_succ, List.getElem?_append_right (by simp [h])]
  simp [h]
theorem cT_set (n : Nat) (lt : List Int) (may fe wa : LV) (i : Nat) (v : Int) (hi : i < lt.length) : (cellsT n lt may fe wa).take (1 + i) ++ [.int .i64 v] ++ (cellsT n lt may fe wa).drop (1 + i + 1) = cellsT n (lt.set i v) may fe wa := by
  have := set_int .i64 lt i v hi
  unfold cellsT
  rw [show 1 + i = i + 1 by omega, List.take_succ_cons, List.drop_succ_cons, List.take_append, List.drop_append, ← this]
  simp [show i - lt.length = 0 by omega, show i + 1 - lt.length = 0 by omega]

/-! ### What it costs -/
theorem bit_dec (d y : Nat) : decide (((d / 2 ^ y % 2 : Nat) : Int) = 1) = d.testBit y := by
  rw [Nat.testBit_eq_decide_div_mod_eq, decide_eq_decide]
  omega
theorem costT_loop (P : List (Nat × Nat)) (hP : P.length ≤ 12) (n0 : Nat) (hn : n0 ≤ 6) (form done : Nat) (hf : form < 6) (hd : done < 64) (may fe wa : LV) (i : Nat) (M : LMem) (b : Bool) (hM : M[i]? = some ⟨cellsT n0 (ltL P) may fe wa, b⟩) (n : Nat) : ∀ (y : Nat), y + n = n0 → sumC P form done y ≤ y * 12 →
    exF LP ring_table_cost.L0 [(0, .ptr i 0 40), (1, .int .i64 (form : Int)), (2, .int .i64 (done : Int)), (7, .int .i64 ((sumC P form done y : Nat) : Int)), (12, .int .i64 (n0 : Int)), (13, .int .i64 (y : Int))] M = some (.exit 0, [(7, .int .i64 ((sumC P form done n0 : Nat) : Int))], M) := by
  have hlen := cT_len n0 (ltL P) may fe wa (ltL_len P)
  induction n with
  | zero =>
    intro y hy _
    obtain rfl : y = n0 := by omega
    rw [ring_table_cost.L0_eq]
    simp only [ring_table_cost.B0, beqT, beqF, exF_seq, exF_region, exF_block, exF_cond, exF_ret, exF_exit, exF_skip, runL, wantL, stepL, evL, evC, LEnv.at, putL, loadFine, loadL, cellsAt, Trk.putNew, Trk.up, Trk.touch, Trk.gives, Trk.calm, Trk.hit, opdsOf, Trk.fresh, LEnv.keep, LEnv.ofFrom, List.map_cons, List.map_nil, nbeq, nble, nblt, ofAV, ofAVs, lenL, bin_add, bin_sub, bin_mul, bin_eql, bin_neq, bin_lss, bin_leq, bin_gtr, bin_geq, natL_nat, natL_zero, natL_one, natL_two, Nat.zero_mul, List.any_cons, List.any_nil, Bool.or_false, Bool.false_or, Bool.true_or, Bool.or_true, Bool.and_true, Bool.true_and, Bool.and_false, Bool.false_and, Bool.not_true, Bool.not_false, Nat.reduceBEq, Nat.reduceEqDiff, decide_true, decide_false, cond_true, cond_false, List.filter_nil, List.filter_cons, Nat.reduceAdd, Nat.reduceLeDiff, reduceCtorEq, List.length_nil, List.length_cons, Nat.mul_one, if_true, if_false, Bool.false_eq_true, eq_self, and_true, true_and, retL, resultsL, resAllL, resOfL, List.append_nil, List.nil_append, List.cons_append, true_or, or_true, false_or, or_false, false_and, and_false, not_true_eq_false, not_false_eq_true, ne_eq, unL, trim_nil, views_pures, LV.pures, LV.pure, freeze, Nat.reduceDiv, Int.reduceEq, Int.reduceLT, Int.reduceLE, Int.natCast_zero, LV.cells, allocL, List.getElem?_cons_zero, List.getElem?_cons_succ, storeL, spliceL, List.take_zero, List.take_succ_cons, List.drop_zero, List.drop_succ_cons, List.drop_nil, List.take_nil, Nat.le_refl, Nat.reduceMul, List.set_cons_zero, List.set_cons_succ, LV.scalar, List.all_cons, List.all_nil, Nat.lt_add_one, Nat.zero_lt_one, Nat.reduceLT, Nat.lt_irrefl, fillL, List.length_append, foldIntL, kind_beq, pures_int, solids_int, plains_int, unders_int, scalars_int, show ¬ ((y : Int) < (y : Int)) by omega]
  | succ n ih =>
    intro y hy hs
    have hcnt : P.count (form, y) ≤ 12 := Nat.le_trans List.count_le_length hP
    have ih := ih (y + 1) (by omega) (by rw [sumC]; split <;> omega)
    rw [sumC] at ih
    have h1 := sshr (a := done) (i := y) (by omega)
    have h2 := sand1 (a := done / 2 ^ y) (Nat.lt_of_le_of_lt (Nat.div_le_self _ _) (by omega))
    have hat := cT_lt n0 (ltL P) may fe wa (ltL_len P) (form * 6 + y) _ (ltL_at P form y hf (by omega))
    rw [← Nat.add_assoc] at hat
    rw [ring_table_cost.L0_eq]
    cases hb : done.testBit y
    · rw [hb] at ih
      simp only [Bool.false_eq_true, if_false, Nat.add_zero] at ih
      have hbd := bit_dec done y
      rw [hb] at hbd
      simp only [ring_table_cost.B0, beqT, beqF, exF_seq, exF_region, exF_block, exF_cond, exF_ret, exF_exit, exF_skip, runL, wantL, stepL, evL, evC, LEnv.at, putL, loadFine, loadL, cellsAt, Trk.putNew, Trk.up, Trk.touch, Trk.gives, Trk.calm, Trk.hit, opdsOf, Trk.fresh, LEnv.keep, LEnv.ofFrom, List.map_cons, List.map_nil, nbeq, nble, nblt, ofAV, ofAVs, lenL, bin_add, bin_sub, bin_mul, bin_eql, bin_neq, bin_lss, bin_leq, bin_gtr, bin_geq, natL_nat, natL_zero, natL_one, natL_two, Nat.zero_mul, List.any_cons, List.any_nil, Bool.or_false, Bool.false_or, Bool.true_or, Bool.or_true, Bool.and_true, Bool.true_and, Bool.and_false, Bool.false_and, Bool.not_true, Bool.not_false, Nat.reduceBEq, Nat.reduceEqDiff, decide_true, decide_false, cond_true, cond_false, List.filter_nil, List.filter_cons, Nat.reduceAdd, Nat.reduceLeDiff, reduceCtorEq, List.length_nil, List.length_cons, Nat.mul_one, if_true, if_false, Bool.false_eq_true, eq_self, and_true, true_and, retL, resultsL, resAllL, resOfL, List.append_nil, List.nil_append, List.cons_append, true_or, or_true, false_or, or_false, false_and, and_false, not_true_eq_false, not_false_eq_true, ne_eq, unL, trim_nil, views_pures, LV.pures, LV.pure, freeze, Nat.reduceDiv, Int.reduceEq, Int.reduceLT, Int.reduceLE, Int.natCast_zero, LV.cells, allocL, List.getElem?_cons_zero, List.getElem?_cons_succ, storeL, spliceL, List.take_zero, List.take_succ_cons, List.drop_zero, List.drop_succ_cons, List.drop_nil, List.take_nil, Nat.le_refl, Nat.reduceMul, List.set_cons_zero, List.set_cons_succ, LV.scalar, List.all_cons, List.all_nil, Nat.lt_add_one, Nat.zero_lt_one, Nat.reduceLT, Nat.lt_irrefl, fillL, List.length_append, foldIntL, kind_beq, pures_int, solids_int, plains_int, unders_int, scalars_int, show ((y : Int) < (n0 : Int)) by omega, h1, h2, hbd, wrap_succ (show y + 1 < 9223372036854775808 by omega), ih]
    · rw [hb] at ih
      simp only [if_true] at ih
      have hbd := bit_dec done y
      rw [hb] at hbd
      have hw : IntKind.i64.wrap (((sumC P form done y : Nat) : Int) + ((P.count (form, y) : Nat) : Int)) = ((sumC P form done y + P.count (form, y) : Nat) : Int) := by rw [wrap_in (by omega)]; omega
      simp only [ring_table_cost.B0, beqT, beqF, exF_seq, exF_region, exF_block, exF_cond, exF_ret, exF_exit, exF_skip, runL, wantL, stepL, evL, evC, LEnv.at, putL, loadFine, loadL, cellsAt, Trk.putNew, Trk.up, Trk.touch, Trk.gives, Trk.calm, Trk.hit, opdsOf, Trk.fresh, LEnv.keep, LEnv.ofFrom, List.map_cons, List.map_nil, nbeq, nble, nblt, ofAV, ofAVs, lenL, bin_add, bin_sub, bin_mul, bin_eql, bin_neq, bin_lss, bin_leq, bin_gtr, bin_geq, natL_nat, natL_zero, natL_one, natL_two, Nat.zero_mul, List.any_cons, List.any_nil, Bool.or_false, Bool.false_or, Bool.true_or, Bool.or_true, Bool.and_true, Bool.true_and, Bool.and_false, Bool.false_and, Bool.not_true, Bool.not_false, Nat.reduceBEq, Nat.reduceEqDiff, decide_true, decide_false, cond_true, cond_false, List.filter_nil, List.filter_cons, Nat.reduceAdd, Nat.reduceLeDiff, reduceCtorEq, List.length_nil, List.length_cons, Nat.mul_one, if_true, if_false, Bool.false_eq_true, eq_self, and_true, true_and, retL, resultsL, resAllL, resOfL, List.append_nil, List.nil_append, List.cons_append, true_or, or_true, false_or, or_false, false_and, and_false, not_true_eq_false, not_false_eq_true, ne_eq, unL, trim_nil, views_pures, LV.pures, LV.pure, freeze, Nat.reduceDiv, Int.reduceEq, Int.reduceLT, Int.reduceLE, Int.natCast_zero, LV.cells, allocL, List.getElem?_cons_zero, List.getElem?_cons_succ, storeL, spliceL, List.take_zero, List.take_succ_cons, List.drop_zero, List.drop_succ_cons, List.drop_nil, List.take_nil, Nat.le_refl, Nat.reduceMul, List.set_cons_zero, List.set_cons_succ, LV.scalar, List.all_cons, List.all_nil, Nat.lt_add_one, Nat.zero_lt_one, Nat.reduceLT, Nat.lt_irrefl, fillL, List.length_append, foldIntL, kind_beq, pures_int, solids_int, plains_int, unders_int, scalars_int, show ((y : Int) < (n0 : Int)) by omega, h1, h2, hbd, hM, hlen, hf, show y < 6 by omega, Nat.zero_add, hat, hw, wrap_succ (show y + 1 < 9223372036854775808 by omega), ih]
theorem costT_c (P : List (Nat × Nat)) (hP : P.length ≤ 12) (n0 : Nat) (hn : n0 ≤ 6) (hlt : ∀ p ∈ P, p.2 < n0) (form done : Nat) (hf : form < 6) (hd : done < 64) (may fe wa : LV) (i : Nat) (M : LMem) (b : Bool) (hM : M[i]? = some ⟨cellsT n0 (ltL P) may fe wa, b⟩) :
    clF LP n_ring_table_cost [.ptr i 0 40, .int .i64 (form : Int), .int .i64 (done : Int)] M = some (.R, .int .i64 ((costN P form done : Nat) : Int), M) := by
  have hM' : (roM M)[i]? = some ⟨cellsT n0 (ltL P) may fe wa, false⟩ := by simp [roM, hM]
  have hlen := cT_len n0 (ltL P) may fe wa (ltL_len P)
  have h0 := cT_0 n0 (ltL P) may fe wa
  have h := costT_loop P hP n0 hn form done hf hd may fe wa i (roM M) false hM' n0 0 (by omega) (by simp [sumC])
  simp only [Int.natCast_zero, sumC] at h
  refine call_R lp_ring_table_cost rfl (m1 := roM M) ?_ rfl
  rw [← sumC_cost form done n0 P hlt]
  simp only [ring_table_cost, ring_table_cost.B, beqT, beqF, exF_seq, exF_region, exF_block, exF_cond, exF_ret, exF_exit, exF_skip, runL, wantL, stepL, evL, evC, LEnv.at, putL, loadFine, loadL, cellsAt, Trk.putNew, Trk.up, Trk.touch, Trk.gives, Trk.calm, Trk.hit, opdsOf, Trk.fresh, LEnv.keep, LEnv.ofFrom, List.map_cons, List.map_nil, nbeq, nble, nblt, ofAV, ofAVs, lenL, bin_add, bin_sub, bin_mul, bin_eql, bin_neq, bin_lss, bin_leq, bin_gtr, bin_geq, natL_nat, natL_zero, natL_one, natL_two, Nat.zero_mul, List.any_cons, List.any_nil, Bool.or_false, Bool.false_or, Bool.true_or, Bool.or_true, Bool.and_true, Bool.true_and, Bool.and_false, Bool.false_and, Bool.not_true, Bool.not_false, Nat.reduceBEq, Nat.reduceEqDiff, decide_true, decide_false, cond_true, cond_false, List.filter_nil, List.filter_cons, Nat.reduceAdd, Nat.reduceLeDiff, reduceCtorEq, List.length_nil, List.length_cons, Nat.mul_one, if_true, if_false, Bool.false_eq_true, eq_self, and_true, true_and, retL, resultsL, resAllL, resOfL, List.append_nil, List.nil_append, List.cons_append, true_or, or_true, false_or, or_false, false_and, and_false, not_true_eq_false, not_false_eq_true, ne_eq, unL, trim_nil, views_pures, LV.pures, LV.pure, freeze, Nat.reduceDiv, Int.reduceEq, Int.reduceLT, Int.reduceLE, Int.natCast_zero, LV.cells, allocL, List.getElem?_cons_zero, List.getElem?_cons_succ, storeL, spliceL, List.take_zero, List.take_succ_cons, List.drop_zero, List.drop_succ_cons, List.drop_nil, List.take_nil, Nat.le_refl, Nat.reduceMul, List.set_cons_zero, List.set_cons_succ, LV.scalar, List.all_cons, List.all_nil, Nat.lt_add_one, Nat.zero_lt_one, Nat.reduceLT, Nat.lt_irrefl, fillL, List.length_append, foldIntL, kind_beq, pures_int, solids_int, plains_int, unders_int, scalars_int, hM', hlen, h0, h]
end Go.Am.Ring

