/-
  What functions of chapter 04 compute, by tables 0: the bits of a set, and what an order contradicts, a bit for each.
-/
import Derived.Test.YtheppipmnfjdcaaDoorRdE00
import Derived.Test.YtheppipmnfjdcaaDoorRdD3
import Derived.Test.YtheppipmnfjdcaaDoorRdP11
import Derived.Test.YtheppipmnfjdcaaDoorRdD1
import Derived.KernelRfl
set_option linter.unusedVariables false
set_option linter.unusedSimpArgs false
set_option maxRecDepth 10000
namespace Go.Am.Ring
open Go.Am.G

/-- (The argument is told by what is done with it alone: the kernel would reckon with it otherwise.) -/
theorem tz_gen (TL : List LV) (hTL : evC (.ptr 1 0) = .elt TL 0) {X a b c d : LV} {j : Nat} {k' : IntKind} {n : Int} (h0 : binL .eql X (.int .u64 0) = some (.bool false)) (ha : unL UnOp.neg X = some a) (hb : binL BinOp.and X a = some b)
    (hc : binL BinOp.mul b (.int .u64 285870213051353865) = some c) (hd : binL BinOp.shr c (LV.int IntKind.u64 58) = some d) (hj : natL d = some j) (hlt' : j < 64) (ht : TL[j]? = some (.int k' n)) : retL math_bits_TrailingZeros64.results (exF LP math_bits_TrailingZeros64.body (LEnv.ofFrom 0 [X]) []) = some (.int .i64 (IntKind.i64.wrap n), []) := by
  simp only [math_bits_TrailingZeros64, math_bits_TrailingZeros64.B, beqT, beqF, exF_seq, exF_region, exF_block, exF_cond, exF_ret, exF_exit, exF_skip, runL, wantL, stepL, evL, evC_int, evC_bool, evC_func, evC_nils, evC_nilp, LEnv.at, putL, loadFine, loadL, cellsAt, Trk.putNew, Trk.up, Trk.touch, Trk.gives, Trk.calm, Trk.hit, opdsOf, Trk.fresh, LEnv.keep, LEnv.ofFrom, List.map_cons, List.map_nil, nbeq, nble, nblt, ofAV, ofAVs, lenL, bin_eql, bin_neq, bin_lss, bin_leq, bin_gtr, bin_geq, natL_nat, natL_zero, natL_one, natL_two, Nat.zero_mul, List.any_cons, List.any_nil, Bool.or_false, Bool.false_or, Bool.true_or, Bool.or_true, Bool.and_true, Bool.true_and, Bool.and_false, Bool.false_and, Bool.not_true, Bool.not_false, Nat.reduceBEq, Nat.reduceEqDiff, decide_true, decide_false, cond_true, cond_false, List.filter_nil, List.filter_cons, Nat.reduceAdd, Nat.reduceLeDiff, reduceCtorEq, List.length_nil, List.length_cons, Nat.mul_one, if_true, if_false, Bool.false_eq_true, eq_self, and_true, true_and, retL, resultsL, resAllL, resOfL, List.append_nil, List.nil_append, List.cons_append, true_or, or_true, false_or, or_false, false_and, and_false, not_true_eq_false, not_false_eq_true, ne_eq, trim_nil, views_pures, LV.pures, LV.pure, freeze, Nat.reduceDiv, Int.reduceEq, Int.reduceLT, Int.reduceLE, Int.natCast_zero, LV.cells, allocL, List.getElem?_cons_zero, List.getElem?_cons_succ, storeL, spliceL, List.take_zero, List.take_succ_cons, List.drop_zero, List.drop_succ_cons, List.drop_nil, List.take_nil, Nat.le_refl, Nat.reduceMul, List.set_cons_zero, List.set_cons_succ, LV.scalar, List.all_cons, List.all_nil, Nat.lt_add_one, Nat.zero_lt_one, Nat.reduceLT, Nat.lt_irrefl, fillL, List.length_append, foldIntL, kind_beq, pures_int, solids_int, plains_int, unders_int, scalars_int, hTL, h0, ha, hb, hc, hd, hj, hlt', Nat.mul_one, Nat.zero_add, ht]
theorem tz_run {x : Nat} (h0 : ¬ (x : Int) = 0) {v : LV} (h : chTZ x = some v) (hv : v.pure = true) (m : LMem) : clF LP n_math_bits_TrailingZeros [.int .u64 (x : Int)] m = some (.P, v, m) := by
  obtain ⟨a, ha, h⟩ := bind_some' h
  obtain ⟨b, hb, h⟩ := bind_some' h
  obtain ⟨c, hc, h⟩ := bind_some' h
  obtain ⟨d, hd, h⟩ := bind_some' h
  obtain ⟨j, hj, h⟩ := bind_some' h
  cases hlt : Nat.blt j 64
  · rw [hlt] at h; cases h
  rw [hlt, cond_true] at h
  obtain ⟨t, ht, h⟩ := bind_some' h
  obtain ⟨k', n, rfl, rfl⟩ := cnvL_some h
  have hlt' : j < 64 := by simpa [nblt] using hlt
  have h64 : ∀ m, clF LP n_math_bits_TrailingZeros64 [.int .u64 (x : Int)] m = some (.P, .int .i64 (IntKind.i64.wrap n), m) := fun m =>
    call_P lp_math_bits_TrailingZeros64 rfl rfl (m1 := []) (tz_gen tabLV glo1' (by rw [bin_eql, decide_eq_false h0]) ha hb hc hd hj hlt' ht) rfl m
  refine call_P lp_math_bits_TrailingZeros rfl rfl (m1 := []) ?_ rfl m
  simp only [math_bits_TrailingZeros, math_bits_TrailingZeros.B, beqT, beqF, exF_seq, exF_region, exF_block, exF_cond, exF_ret, exF_exit, exF_skip, runL, wantL, stepL, evL, evC_int, evC_bool, evC_func, evC_nils, evC_nilp, LEnv.at, putL, loadFine, loadL, cellsAt, Trk.putNew, Trk.up, Trk.touch, Trk.gives, Trk.calm, Trk.hit, opdsOf, Trk.fresh, LEnv.keep, LEnv.ofFrom, List.map_cons, List.map_nil, nbeq, nble, nblt, ofAV, ofAVs, lenL, bin_eql, bin_neq, bin_lss, bin_leq, bin_gtr, bin_geq, natL_nat, natL_zero, natL_one, natL_two, Nat.zero_mul, List.any_cons, List.any_nil, Bool.or_false, Bool.false_or, Bool.true_or, Bool.or_true, Bool.and_true, Bool.true_and, Bool.and_false, Bool.false_and, Bool.not_true, Bool.not_false, Nat.reduceBEq, Nat.reduceEqDiff, decide_true, decide_false, cond_true, cond_false, List.filter_nil, List.filter_cons, Nat.reduceAdd, Nat.reduceLeDiff, reduceCtorEq, List.length_nil, List.length_cons, Nat.mul_one, if_true, if_false, Bool.false_eq_true, eq_self, and_true, true_and, retL, resultsL, resAllL, resOfL, List.append_nil, List.nil_append, List.cons_append, true_or, or_true, false_or, or_false, false_and, and_false, not_true_eq_false, not_false_eq_true, ne_eq, trim_nil, views_pures, LV.pures, LV.pure, freeze, Nat.reduceDiv, Int.reduceEq, Int.reduceLT, Int.reduceLE, Int.natCast_zero, LV.cells, allocL, List.getElem?_cons_zero, List.getElem?_cons_succ, storeL, spliceL, List.take_zero, List.take_succ_cons, List.drop_zero, List.drop_succ_cons, List.drop_nil, List.take_nil, Nat.le_refl, Nat.reduceMul, List.set_cons_zero, List.set_cons_succ, LV.scalar, List.all_cons, List.all_nil, Nat.lt_add_one, Nat.zero_lt_one, Nat.reduceLT, Nat.lt_irrefl, fillL, List.length_append, foldIntL, kind_beq, pures_int, solids_int, plains_int, unders_int, scalars_int, h64]
theorem tz_c {x : Nat} (hx : x < 4096) (h0 : x ≠ 0) : (∀ m, clF LP n_math_bits_TrailingZeros [.int .u64 (x : Int)] m = some (.P, .int .i64 ((tzP 12 x : Nat) : Int), m)) ∧ tzP 12 x < 12 ∧ x &&& (x - 1) = x - 2 ^ tzP 12 x ∧ x % 2 ^ tzP 12 x = 0 ∧ x / 2 ^ tzP 12 x % 2 = 1 := by
  have h := four tzOk_0 tzOk_1 tzOk_2 tzOk_3 hx
  simp only [tzOk, Bool.or_eq_true, Bool.and_eq_true, nbeq, nblt, decide_eq_true_eq] at h
  rcases h with h | ⟨h1, h2, h3, h4, h5⟩
  · exact absurd h h0
  · exact ⟨fun m => tz_run (by omega) (isN_some h1) rfl m, h2, h3, h4, h5⟩
theorem num_step {x : Nat} (hx : x < 4096) (h0 : x ≠ 0) : numL x = tzP 12 x :: numL (x &&& (x - 1)) := by
  obtain ⟨_, h3, h4, h5, h6⟩ := tz_c hx h0
  rw [h4]
  generalize tzP 12 x = t at *
  have hd := Nat.div_add_mod x (2 ^ t)
  rw [h5, Nat.add_zero] at hd
  have hm2 := Nat.div_add_mod (x / 2 ^ t) 2
  rw [h6] at hm2
  have hle : 2 ^ t ≤ x := by
    rw [← hd]
    exact Nat.le_mul_of_pos_right _ (by omega)
  have hb : ∀ i, x.testBit i = ((x - 2 ^ t).testBit i || decide (t = i)) ∧ (i ≤ t → (x - 2 ^ t).testBit i = false) := by
    have e1 : x - 2 ^ t = 2 ^ (t + 1) * (x / 2 ^ t / 2) := by
      rw [Nat.pow_succ, Nat.mul_assoc]
      have : 2 ^ t * (x / 2 ^ t) = 2 ^ t * (2 * (x / 2 ^ t / 2)) + 2 ^ t := by rw [← Nat.mul_add_one, hm2]
      omega
    intro i
    have hlow : i ≤ t → (x - 2 ^ t).testBit i = false := fun hi => by
      rw [e1, Nat.testBit_two_pow_mul]; simp; omega
    refine ⟨?_, hlow⟩
    have e2 : x = 2 ^ (t + 1) * (x / 2 ^ t / 2) ||| 2 ^ t := by
      rw [← Nat.two_pow_add_eq_or_of_lt (Nat.pow_lt_pow_right (by omega) (by omega)), ← e1]; omega
    conv => lhs; rw [e2]
    rw [Nat.testBit_or, Nat.testBit_two_pow, e1]
  have hr : List.range 12 = List.range t ++ t :: List.range' (t + 1) (12 - (t + 1)) := by
    have := List.range'_append_1 (s := 0) (m := t) (n := 12 - t)
    rw [Nat.zero_add, show t + (12 - t) = 12 by omega] at this
    rw [List.range_eq_range', ← this, List.range_eq_range', show 12 - t = (12 - (t + 1)) + 1 by omega, List.range'_succ]
  unfold numL
  rw [hr, List.filter_append, List.filter_append, List.filter_cons, List.filter_cons]
  have f1 : (List.range t).filter (fun i => x.testBit i) = [] := List.filter_eq_nil_iff.2 fun i hi => by
    have := List.mem_range.1 hi
    rw [(hb i).1, (hb i).2 (by omega)]
    simp; omega
  have f2 : (List.range t).filter (fun i => (x - 2 ^ t).testBit i) = [] := List.filter_eq_nil_iff.2 fun i hi => by
    have := List.mem_range.1 hi
    rw [(hb i).2 (by omega)]; simp
  have f3 : x.testBit t = true := by rw [(hb t).1]; simp
  have f4 : (x - 2 ^ t).testBit t = false := (hb t).2 (Nat.le_refl _)
  rw [f1, f2, if_pos f3, if_neg (by rw [f4]; simp), List.nil_append, List.nil_append]
  congr 1
  refine List.filter_congr fun i hi => ?_
  have := (List.mem_range'_1.1 hi).1
  rw [(hb i).1]
  have : ¬ t = i := by omega
  simp [this]
theorem num_loop (d : Nat) : ∀ (S : Nat) (out : List Nat) (M : LMem) (v : LV), (numL S).length = d → S < 4096 → out.length + d ≤ 1000 → Lst M v 1 out.length (ints (ci out)) →
    ∃ v' M', exF LP law04_numbers.L0 [(0, .int .u64 (S : Int)), (3, v)] M = some (.exit 0, [(3, v')], M') ∧ Lst M' v' 1 (out ++ numL S).length (ints (ci (out ++ numL S))) := by
  induction d with
  | zero =>
    intro S out M v hd hS ho hL
    have h0 : S = 0 := by
      rcases Nat.eq_zero_or_pos S with h | h
      · exact h
      · rw [num_step hS (by omega)] at hd; simp at hd
    subst h0
    refine ⟨v, M, ?_, by rw [numL_zero, List.append_nil]; exact hL⟩
    rw [law04_numbers.L0_eq]
    simp only [law04_numbers.B0, beqT, beqF, exF_seq, exF_region, exF_block, exF_cond, exF_ret, exF_exit, exF_skip, runL, wantL, stepL, evL, evC, LEnv.at, putL, loadFine, loadL, cellsAt, Trk.putNew, Trk.up, Trk.touch, Trk.gives, Trk.calm, Trk.hit, opdsOf, Trk.fresh, LEnv.keep, LEnv.ofFrom, List.map_cons, List.map_nil, nbeq, nble, nblt, ofAV, ofAVs, lenL, bin_add, bin_sub, bin_mul, bin_eql, bin_neq, bin_lss, bin_leq, bin_gtr, bin_geq, natL_nat, natL_zero, natL_one, natL_two, Nat.zero_mul, List.any_cons, List.any_nil, Bool.or_false, Bool.false_or, Bool.true_or, Bool.or_true, Bool.and_true, Bool.true_and, Bool.and_false, Bool.false_and, Bool.not_true, Bool.not_false, Nat.reduceBEq, Nat.reduceEqDiff, decide_true, decide_false, cond_true, cond_false, List.filter_nil, List.filter_cons, Nat.reduceAdd, Nat.reduceLeDiff, reduceCtorEq, List.length_nil, List.length_cons, Nat.mul_one, if_true, if_false, Bool.false_eq_true, eq_self, and_true, true_and, retL, resultsL, resAllL, resOfL, List.append_nil, List.nil_append, List.cons_append, true_or, or_true, false_or, or_false, false_and, and_false, not_true_eq_false, not_false_eq_true, ne_eq, unL, trim_nil, views_pures, LV.pures, LV.pure, freeze, Nat.reduceDiv, Int.reduceEq, Int.reduceLT, Int.reduceLE, Int.natCast_zero, LV.cells, allocL, List.getElem?_cons_zero, List.getElem?_cons_succ, storeL, spliceL, List.take_zero, List.take_succ_cons, List.drop_zero, List.drop_succ_cons, List.drop_nil, List.take_nil, Nat.le_refl, Nat.reduceMul, List.set_cons_zero, List.set_cons_succ, LV.scalar, List.all_cons, List.all_nil, Nat.lt_add_one, Nat.zero_lt_one, Nat.reduceLT, Nat.lt_irrefl, fillL, List.length_append, foldIntL, kind_beq, pures_int, solids_int, plains_int, unders_int, scalars_int]
  | succ d ih =>
    intro S out M v hd hS ho hL
    have h0 : S ≠ 0 := fun e => by subst e; rw [numL_zero] at hd; simp at hd
    have h0' : ¬ (S : Int) = 0 := by omega
    obtain ⟨htz, _⟩ := tz_c hS h0
    have hst := num_step hS h0
    rw [hst, List.length_cons] at hd
    have hle : S &&& (S - 1) ≤ S := Nat.and_le_left
    have hpred := bits_pred (a := S) (by omega) (by omega)
    have hand := bits_and (a := S) (b := S - 1) (by omega) (by omega)
    obtain ⟨v2, m2, hap, hL2, _, _, _⟩ := hL.append (x := .lst false true 1 1 [.int .i64 ((tzP 12 S : Nat) : Int)]) (k := 1) (news := [.int .i64 ((tzP 12 S : Nat) : Int)]) (bytes := 8) (by simp [contents, nbeq]) rfl (by omega) (by omega) rfl
    have hL2 : Lst m2 v2 1 (out ++ [tzP 12 S]).length (ints (ci (out ++ [tzP 12 S]))) := by
      have e : ints (ci (out ++ [tzP 12 S])) = ints (ci out) ++ [.int .i64 ((tzP 12 S : Nat) : Int)] := by simp
      rw [e]; simpa using hL2
    obtain ⟨v', M', hex, hL'⟩ := ih (S &&& (S - 1)) (out ++ [tzP 12 S]) m2 v2 (by omega) (by omega) (by simp; omega) hL2
    refine ⟨v', M', ?_, by rw [hst, List.append_cons]; exact hL'⟩
    rw [law04_numbers.L0_eq]
    generalize (S &&& (S - 1) : Nat) = S2 at *
    generalize tzP 12 S = t at *
    simp only [law04_numbers.B0, beqT, beqF, exF_seq, exF_region, exF_block, exF_cond, exF_ret, exF_exit, exF_skip, runL, wantL, stepL, evL, evC, LEnv.at, putL, loadFine, loadL, cellsAt, Trk.putNew, Trk.up, Trk.touch, Trk.gives, Trk.calm, Trk.hit, opdsOf, Trk.fresh, LEnv.keep, LEnv.ofFrom, List.map_cons, List.map_nil, nbeq, nble, nblt, ofAV, ofAVs, lenL, bin_add, bin_sub, bin_mul, bin_eql, bin_neq, bin_lss, bin_leq, bin_gtr, bin_geq, natL_nat, natL_zero, natL_one, natL_two, Nat.zero_mul, List.any_cons, List.any_nil, Bool.or_false, Bool.false_or, Bool.true_or, Bool.or_true, Bool.and_true, Bool.true_and, Bool.and_false, Bool.false_and, Bool.not_true, Bool.not_false, Nat.reduceBEq, Nat.reduceEqDiff, decide_true, decide_false, cond_true, cond_false, List.filter_nil, List.filter_cons, Nat.reduceAdd, Nat.reduceLeDiff, reduceCtorEq, List.length_nil, List.length_cons, Nat.mul_one, if_true, if_false, Bool.false_eq_true, eq_self, and_true, true_and, retL, resultsL, resAllL, resOfL, List.append_nil, List.nil_append, List.cons_append, true_or, or_true, false_or, or_false, false_and, and_false, not_true_eq_false, not_false_eq_true, ne_eq, unL, trim_nil, views_pures, LV.pures, LV.pure, freeze, Nat.reduceDiv, Int.reduceEq, Int.reduceLT, Int.reduceLE, Int.natCast_zero, LV.cells, allocL, List.getElem?_cons_zero, List.getElem?_cons_succ, storeL, spliceL, List.take_zero, List.take_succ_cons, List.drop_zero, List.drop_succ_cons, List.drop_nil, List.take_nil, Nat.le_refl, Nat.reduceMul, List.set_cons_zero, List.set_cons_succ, LV.scalar, List.all_cons, List.all_nil, Nat.lt_add_one, Nat.zero_lt_one, Nat.reduceLT, Nat.lt_irrefl, fillL, List.length_append, foldIntL, kind_beq, pures_int, solids_int, plains_int, unders_int, scalars_int, h0', htz, hap, hpred, hand, hex]
theorem num_le (S : Nat) : (numL S).length ≤ 12 := by
  have := List.length_filter_le (fun i => S.testBit i) (List.range 12)
  rw [List.length_range] at this
  exact this
theorem numbers_c {S : Nat} (hS : S < 4096) : ∃ a b z, (numL S = [] ∨ (a = false ∧ z = 1)) ∧ ∀ m, clF LP n_law04_numbers [.int .u64 (S : Int)] m = some (.P, IL a b z (ci (numL S)), m) := by
  have hle := num_le S
  obtain ⟨v', M', hex, hL⟩ := num_loop (numL S).length S [] [] (.lst true true 0 0 []) rfl hS (by simp; omega) (Lst.nil [] 1)
  rw [List.nil_append] at hL
  obtain ⟨a, b, z, ids, hz, hn, _, hvw⟩ := hL.view (pures_int _ _) (by omega)
  refine ⟨a, b, z, ?_, fun m => ?_⟩
  · by_cases c : numL S = []
    · exact .inl c
    · have hl : (numL S).length ≠ 0 := fun e => c (List.length_eq_zero_iff.1 e)
      refine .inr ⟨?_, hz.resolve_left hl⟩
      cases a
      · rfl
      · exact absurd (hn rfl) hl
  · have hcl := ci_len (numL S)
    simp only [IL, hcl]
    refine call_Pv lp_law04_numbers rfl rfl (m1 := M') (v := v') (ids := ids) ?_ (hvw 97) m
    simp only [law04_numbers, law04_numbers.B, beqT, beqF, exF_seq, exF_region, exF_block, exF_cond, exF_ret, exF_exit, exF_skip, runL, wantL, stepL, evL, evC, LEnv.at, putL, loadFine, loadL, cellsAt, Trk.putNew, Trk.up, Trk.touch, Trk.gives, Trk.calm, Trk.hit, opdsOf, Trk.fresh, LEnv.keep, LEnv.ofFrom, List.map_cons, List.map_nil, nbeq, nble, nblt, ofAV, ofAVs, lenL, bin_add, bin_sub, bin_mul, bin_eql, bin_neq, bin_lss, bin_leq, bin_gtr, bin_geq, natL_nat, natL_zero, natL_one, natL_two, Nat.zero_mul, List.any_cons, List.any_nil, Bool.or_false, Bool.false_or, Bool.true_or, Bool.or_true, Bool.and_true, Bool.true_and, Bool.and_false, Bool.false_and, Bool.not_true, Bool.not_false, Nat.reduceBEq, Nat.reduceEqDiff, decide_true, decide_false, cond_true, cond_false, List.filter_nil, List.filter_cons, Nat.reduceAdd, Nat.reduceLeDiff, reduceCtorEq, List.length_nil, List.length_cons, Nat.mul_one, if_true, if_false, Bool.false_eq_true, eq_self, and_true, true_and, retL, resultsL, resAllL, resOfL, List.append_nil, List.nil_append, List.cons_append, true_or, or_true, false_or, or_false, false_and, and_false, not_true_eq_false, not_false_eq_true, ne_eq, unL, trim_nil, views_pures, LV.pures, LV.pure, freeze, Nat.reduceDiv, Int.reduceEq, Int.reduceLT, Int.reduceLE, Int.natCast_zero, LV.cells, allocL, List.getElem?_cons_zero, List.getElem?_cons_succ, storeL, spliceL, List.take_zero, List.take_succ_cons, List.drop_zero, List.drop_succ_cons, List.drop_nil, List.take_nil, Nat.le_refl, Nat.reduceMul, List.set_cons_zero, List.set_cons_succ, LV.scalar, List.all_cons, List.all_nil, Nat.lt_add_one, Nat.zero_lt_one, Nat.reduceLT, Nat.lt_irrefl, fillL, List.length_append, foldIntL, kind_beq, pures_int, solids_int, plains_int, unders_int, scalars_int, hex]

/-! ### What an order contradicts -/
theorem idx_plc (x : Int) : ∀ (l : List Int) (k : Nat), idxI x l k = plcG x k l
  | [], k => rfl
  | a :: r, k => by
    rw [idxI, plcG, idx_plc x r (k + 1)]
    by_cases c : x = a
    · rw [if_pos c, if_pos c.symm]
    · rw [if_neg c, if_neg (fun e => c e.symm)]
theorem idx_pos (o : List Nat) (x : Nat) : idxI (x : Int) (ci o) 0 = pos o x := idx_plc _ _ 0
def badI (P : List (Nat × Nat)) (o : List Nat) (i : Nat) : Bool := decide (pos o (en P i) < pos o (st P i))
def mskK (P : List (Nat × Nat)) (o : List Nat) (k : Nat) : Nat := (List.range k).foldl (fun a i => if badI P o i = true then a ||| 2 ^ i else a) 0
theorem mskK_succ (P : List (Nat × Nat)) (o : List Nat) (k : Nat) : mskK P o (k + 1) = if badI P o k = true then mskK P o k ||| 2 ^ k else mskK P o k := by simp [mskK, List.range_succ]
abbrev msk (P : List (Nat × Nat)) (o : List Nat) : Nat := mskK P o P.length
theorem mskK_bit (P : List (Nat × Nat)) (o : List Nat) (i : Nat) : ∀ k, (mskK P o k).testBit i = (decide (i < k) && badI P o i)
  | 0 => by simp [mskK]
  | k + 1 => by
    rw [mskK_succ]
    have ih := mskK_bit P o i k
    by_cases e : i = k
    · subst e
      split
      · rename_i h
        rw [Nat.testBit_or, ih, h]; simp
      · rename_i h
        rw [ih]; simp [h]
    · have h1 : decide (i < k + 1) = decide (i < k) := by rw [decide_eq_decide]; omega
      rw [h1, ← ih]
      split
      · rw [Nat.testBit_or, Nat.testBit_two_pow]
        have : ¬ k = i := fun h => e h.symm
        simp [this]
      · rfl
theorem mskK_lt (P : List (Nat × Nat)) (o : List Nat) : ∀ k, k ≤ 12 → mskK P o k < 4096
  | 0, _ => by simp [mskK]
  | k + 1, h => by
    rw [mskK_succ]
    split
    · exact Nat.or_lt_two_pow (n := 12) (mskK_lt P o k (by omega)) (Nat.pow_lt_pow_right (by omega) (by omega))
    · exact mskK_lt P o k (by omega)
theorem against_loop' {n : Nat} {P : List (Nat × Nat)} (G : Good n P) (nl ex : Bool) (sz : Nat) (nl' ex' : Bool) (sz' : Nat) (o : List Nat) (ho : o.length < 1000) (j : Nat) : ∀ (k : Nat) (M : LMem), k + j = P.length →
    ∃ M', exF LP law04_against.L0 [(1, IL nl' ex' sz' (ci o)), (5, .int .u64 ((mskK P o k : Nat) : Int)), (8, FN nl ex sz P), (9, .int .i64 (P.length : Int)), (10, .int .i64 (k : Int))] M = some (.exit 0, [(5, .int .u64 ((msk P o : Nat) : Int))], M') := by
  have h12 := G.le12
  induction j with
  | zero =>
    intro k M hk
    obtain rfl : k = P.length := by omega
    refine ⟨M, ?_⟩
    rw [law04_against.L0_eq]
    simp only [law04_against.B0, beqT, beqF, exF_seq, exF_region, exF_block, exF_cond, exF_ret, exF_exit, exF_skip, runL, wantL, stepL, evL, evC, LEnv.at, putL, loadFine, loadL, cellsAt, Trk.putNew, Trk.up, Trk.touch, Trk.gives, Trk.calm, Trk.hit, opdsOf, Trk.fresh, LEnv.keep, LEnv.ofFrom, List.map_cons, List.map_nil, nbeq, nble, nblt, ofAV, ofAVs, lenL, bin_add, bin_sub, bin_mul, bin_eql, bin_neq, bin_lss, bin_leq, bin_gtr, bin_geq, natL_nat, natL_zero, natL_one, natL_two, Nat.zero_mul, List.any_cons, List.any_nil, Bool.or_false, Bool.false_or, Bool.true_or, Bool.or_true, Bool.and_true, Bool.true_and, Bool.and_false, Bool.false_and, Bool.not_true, Bool.not_false, Nat.reduceBEq, Nat.reduceEqDiff, decide_true, decide_false, cond_true, cond_false, List.filter_nil, List.filter_cons, Nat.reduceAdd, Nat.reduceLeDiff, reduceCtorEq, List.length_nil, List.length_cons, Nat.mul_one, if_true, if_false, Bool.false_eq_true, eq_self, and_true, true_and, retL, resultsL, resAllL, resOfL, List.append_nil, List.nil_append, List.cons_append, true_or, or_true, false_or, or_false, false_and, and_false, not_true_eq_false, not_false_eq_true, ne_eq, unL, trim_nil, views_pures, LV.pures, LV.pure, freeze, Nat.reduceDiv, Int.reduceEq, Int.reduceLT, Int.reduceLE, Int.natCast_zero, LV.cells, allocL, List.getElem?_cons_zero, List.getElem?_cons_succ, storeL, spliceL, List.take_zero, List.take_succ_cons, List.drop_zero, List.drop_succ_cons, List.drop_nil, List.take_nil, Nat.le_refl, Nat.reduceMul, List.set_cons_zero, List.set_cons_succ, LV.scalar, List.all_cons, List.all_nil, Nat.lt_add_one, Nat.zero_lt_one, Nat.reduceLT, Nat.lt_irrefl, fillL, List.length_append, foldIntL, kind_beq, pures_int, solids_int, plains_int, unders_int, scalars_int, Int.lt_irrefl]
  | succ j ih =>
    intro k M hk
    have h2 : k < P.length := by omega
    have hkk : (k : Int) < (P.length : Int) := by omega
    have hw := wrap_succ (show k + 1 < 9223372036854775808 by omega)
    have seg := pcSE P k h2
    have ok := pcN_ok P k h2
    have i1 := fun m => index_c nl' ex' sz' (ci o) ((en P k : Nat) : Int) (by rw [ci_len]; omega) m
    have i2 := fun m => index_c nl' ex' sz' (ci o) ((st P k : Nat) : Int) (by rw [ci_len]; omega) m
    simp only [idx_pos] at i1 i2
    have hshl := bits_shl (show k < 64 by omega)
    have hlt := mskK_lt P o k (by omega)
    have hpw : 2 ^ k < 2 ^ 12 := Nat.pow_lt_pow_right (by omega) (by omega)
    have hor := bits_or (a := mskK P o k) (b := 2 ^ k) (by omega) (by omega)
    obtain ⟨M', hex⟩ := ih (k + 1) (M ++ [⟨[.int .i64 ((st P k : Nat) : Int), .int .i64 ((en P k : Nat) : Int)], true⟩]) (by omega)
    refine ⟨M', ?_⟩
    rw [mskK_succ] at hex
    rw [law04_against.L0_eq]
    have hbad : badI P o k = decide (pos o (en P k) < pos o (st P k)) := rfl
    generalize IL nl' ex' sz' (ci o) = ov at *
    by_cases c : pos o (en P k) < pos o (st P k)
    · rw [if_pos (by rw [hbad]; exact decide_eq_true c)] at hex
      simp only [FN_eq] at hex ⊢
      simp only [law04_against.B0, law04_against.B0.R0, beqT, beqF, exF_seq, exF_region, exF_block, exF_cond, exF_ret, exF_exit, exF_skip, runL, wantL, stepL, evL, evC, LEnv.at, putL, loadFine, loadL, cellsAt, Trk.putNew, Trk.up, Trk.touch, Trk.gives, Trk.calm, Trk.hit, opdsOf, Trk.fresh, LEnv.keep, LEnv.ofFrom, List.map_cons, List.map_nil, nbeq, nble, nblt, ofAV, ofAVs, lenL, bin_add, bin_sub, bin_mul, bin_eql, bin_neq, bin_lss, bin_leq, bin_gtr, bin_geq, natL_nat, natL_zero, natL_one, natL_two, Nat.zero_mul, List.any_cons, List.any_nil, Bool.or_false, Bool.false_or, Bool.true_or, Bool.or_true, Bool.and_true, Bool.true_and, Bool.and_false, Bool.false_and, Bool.not_true, Bool.not_false, Nat.reduceBEq, Nat.reduceEqDiff, decide_true, decide_false, cond_true, cond_false, List.filter_nil, List.filter_cons, Nat.reduceAdd, Nat.reduceLeDiff, reduceCtorEq, List.length_nil, List.length_cons, Nat.mul_one, if_true, if_false, Bool.false_eq_true, eq_self, and_true, true_and, retL, resultsL, resAllL, resOfL, List.append_nil, List.nil_append, List.cons_append, true_or, or_true, false_or, or_false, false_and, and_false, not_true_eq_false, not_false_eq_true, ne_eq, unL, trim_nil, views_pures, LV.pures, LV.pure, freeze, Nat.reduceDiv, Int.reduceEq, Int.reduceLT, Int.reduceLE, Int.natCast_zero, LV.cells, allocL, List.getElem?_cons_zero, List.getElem?_cons_succ, storeL, spliceL, List.take_zero, List.take_succ_cons, List.drop_zero, List.drop_succ_cons, List.drop_nil, List.take_nil, Nat.le_refl, Nat.reduceMul, List.set_cons_zero, List.set_cons_succ, LV.scalar, List.all_cons, List.all_nil, Nat.lt_add_one, Nat.zero_lt_one, Nat.reduceLT, Nat.lt_irrefl, fillL, List.length_append, foldIntL, kind_beq, pures_int, solids_int, plains_int, unders_int, scalars_int, Nat.add_zero, hkk, h2, seg, ok, set_last, get_last, show ¬ M.length + 1 ≤ M.length by omega, i1, i2, c, hshl, hor, hw, hex]
    · rw [if_neg (by rw [hbad, decide_eq_false c]; simp)] at hex
      simp only [FN_eq] at hex ⊢
      simp only [law04_against.B0, law04_against.B0.R0, beqT, beqF, exF_seq, exF_region, exF_block, exF_cond, exF_ret, exF_exit, exF_skip, runL, wantL, stepL, evL, evC, LEnv.at, putL, loadFine, loadL, cellsAt, Trk.putNew, Trk.up, Trk.touch, Trk.gives, Trk.calm, Trk.hit, opdsOf, Trk.fresh, LEnv.keep, LEnv.ofFrom, List.map_cons, List.map_nil, nbeq, nble, nblt, ofAV, ofAVs, lenL, bin_add, bin_sub, bin_mul, bin_eql, bin_neq, bin_lss, bin_leq, bin_gtr, bin_geq, natL_nat, natL_zero, natL_one, natL_two, Nat.zero_mul, List.any_cons, List.any_nil, Bool.or_false, Bool.false_or, Bool.true_or, Bool.or_true, Bool.and_true, Bool.true_and, Bool.and_false, Bool.false_and, Bool.not_true, Bool.not_false, Nat.reduceBEq, Nat.reduceEqDiff, decide_true, decide_false, cond_true, cond_false, List.filter_nil, List.filter_cons, Nat.reduceAdd, Nat.reduceLeDiff, reduceCtorEq, List.length_nil, List.length_cons, Nat.mul_one, if_true, if_false, Bool.false_eq_true, eq_self, and_true, true_and, retL, resultsL, resAllL, resOfL, List.append_nil, List.nil_append, List.cons_append, true_or, or_true, false_or, or_false, false_and, and_false, not_true_eq_false, not_false_eq_true, ne_eq, unL, trim_nil, views_pures, LV.pures, LV.pure, freeze, Nat.reduceDiv, Int.reduceEq, Int.reduceLT, Int.reduceLE, Int.natCast_zero, LV.cells, allocL, List.getElem?_cons_zero, List.getElem?_cons_succ, storeL, spliceL, List.take_zero, List.take_succ_cons, List.drop_zero, List.drop_succ_cons, List.drop_nil, List.take_nil, Nat.le_refl, Nat.reduceMul, List.set_cons_zero, List.set_cons_succ, LV.scalar, List.all_cons, List.all_nil, Nat.lt_add_one, Nat.zero_lt_one, Nat.reduceLT, Nat.lt_irrefl, fillL, List.length_append, foldIntL, kind_beq, pures_int, solids_int, plains_int, unders_int, scalars_int, Nat.add_zero, hkk, h2, seg, ok, set_last, get_last, show ¬ M.length + 1 ≤ M.length by omega, i1, i2, c, hw, hex]
theorem mask_c {n : Nat} {P : List (Nat × Nat)} (G : Good n P) (nl ex : Bool) (sz : Nat) (nl' ex' : Bool) (sz' : Nat) (o : List Nat) (ho : o.length < 1000) (m : LMem) : clF LP n_law04_against [FN nl ex sz P, IL nl' ex' sz' (ci o)] m = some (.P, .int .u64 ((msk P o : Nat) : Int), m) := by
  obtain ⟨M', h⟩ := against_loop' G nl ex sz nl' ex' sz' o ho P.length 0 [] (by omega)
  have h0 : ((mskK P o 0 : Nat) : Int) = 0 := rfl
  rw [h0] at h
  simp only [Int.natCast_zero] at h
  refine call_P lp_law04_against rfl (by simp [LV.pures, LV.pure, pcI_pures]) (m1 := M') ?_ rfl m
  generalize IL nl' ex' sz' (ci o) = ov at *
  simp only [FN_eq] at h ⊢
  simp only [law04_against, law04_against.B, beqT, beqF, exF_seq, exF_region, exF_block, exF_cond, exF_ret, exF_exit, exF_skip, runL, wantL, stepL, evL, evC, LEnv.at, putL, loadFine, loadL, cellsAt, Trk.putNew, Trk.up, Trk.touch, Trk.gives, Trk.calm, Trk.hit, opdsOf, Trk.fresh, LEnv.keep, LEnv.ofFrom, List.map_cons, List.map_nil, nbeq, nble, nblt, ofAV, ofAVs, lenL, bin_add, bin_sub, bin_mul, bin_eql, bin_neq, bin_lss, bin_leq, bin_gtr, bin_geq, natL_nat, natL_zero, natL_one, natL_two, Nat.zero_mul, List.any_cons, List.any_nil, Bool.or_false, Bool.false_or, Bool.true_or, Bool.or_true, Bool.and_true, Bool.true_and, Bool.and_false, Bool.false_and, Bool.not_true, Bool.not_false, Nat.reduceBEq, Nat.reduceEqDiff, decide_true, decide_false, cond_true, cond_false, List.filter_nil, List.filter_cons, Nat.reduceAdd, Nat.reduceLeDiff, reduceCtorEq, List.length_nil, List.length_cons, Nat.mul_one, if_true, if_false, Bool.false_eq_true, eq_self, and_true, true_and, retL, resultsL, resAllL, resOfL, List.append_nil, List.nil_append, List.cons_append, true_or, or_true, false_or, or_false, false_and, and_false, not_true_eq_false, not_false_eq_true, ne_eq, unL, trim_nil, views_pures, LV.pures, LV.pure, freeze, Nat.reduceDiv, Int.reduceEq, Int.reduceLT, Int.reduceLE, Int.natCast_zero, LV.cells, allocL, List.getElem?_cons_zero, List.getElem?_cons_succ, storeL, spliceL, List.take_zero, List.take_succ_cons, List.drop_zero, List.drop_succ_cons, List.drop_nil, List.take_nil, Nat.le_refl, Nat.reduceMul, List.set_cons_zero, List.set_cons_succ, LV.scalar, List.all_cons, List.all_nil, Nat.lt_add_one, Nat.zero_lt_one, Nat.reduceLT, Nat.lt_irrefl, fillL, List.length_append, foldIntL, kind_beq, pures_int, solids_int, plains_int, unders_int, scalars_int, h]
theorem agn_bad {n : Nat} {P : List (Nat × Nat)} (G : Good n P) (o : List Nat) : agn (P.map castP) (ci o) = ci (numL (msk P o)) := by
  have h12 := G.le12
  have e1 : numL (msk P o) = (List.range P.length).filter (badI P o) := by
    unfold numL
    have hr : List.range 12 = List.range P.length ++ List.range' P.length (12 - P.length) := by
      have := List.range'_append_1 (s := 0) (m := P.length) (n := 12 - P.length)
      rw [Nat.zero_add, show P.length + (12 - P.length) = 12 by omega] at this
      rw [List.range_eq_range', ← this, List.range_eq_range']
    rw [hr, List.filter_append]
    have f2 : (List.range' P.length (12 - P.length)).filter (fun i => (msk P o).testBit i) = [] := List.filter_eq_nil_iff.2 fun i hi => by
      have := (List.mem_range'_1.1 hi).1
      rw [mskK_bit]; simp; omega
    rw [f2, List.append_nil]
    refine List.filter_congr fun i hi => ?_
    have := List.mem_range.1 hi
    rw [mskK_bit]; simp [this]
  rw [e1]
  have key : ∀ (j k : Nat), k + j = P.length → agnF (ci o) k ((P.drop k).map castP) = ci ((List.range' k j).filter (badI P o)) := by
    intro j
    induction j with
    | zero => intro k hk; rw [List.drop_eq_nil_of_le (by omega)]; rfl
    | succ j ih =>
      intro k hk
      have h2 : k < P.length := by omega
      rw [List.drop_eq_getElem_cons h2, List.map_cons, agnF, ih (k + 1) (by omega), List.range'_succ, List.filter_cons]
      have hs : badI P o k = decide (plc (ci o) (castP P[k]).2 < plc (ci o) (castP P[k]).1) := by
        unfold badI pos st en
        rw [getD_at P k _ h2]; rfl
      by_cases c : plc (ci o) (castP P[k]).2 < plc (ci o) (castP P[k]).1
      · rw [if_pos c, if_pos (by rw [hs]; exact decide_eq_true c)]; rfl
      · rw [if_neg c, if_neg (by rw [hs, decide_eq_false c]; simp)]
  have := key P.length 0 (by omega)
  rw [List.drop_zero, ← List.range_eq_range'] at this
  exact this
theorem msk_len {n : Nat} {P : List (Nat × Nat)} (G : Good n P) (o : List Nat) : (numL (msk P o)).length = contr P o := by
  have h1 := agn_bad G o
  have h2 := agnF_length o P 0
  have h3 : (agn (P.map castP) (ci o)).length = contr P o := h2
  rw [h1, ci_len] at h3
  exact h3

/-! ### Reverse -/
theorem intl_at (l : List Int) (k : Nat) (h : k < l.length) : (ints l)[k]? = some (.int .i64 l[k]) := by simp [h]
def RVi (l : List Int) (i : Nat) : List Int := (List.range l.length).map fun k => if k < i ∨ l.length - i ≤ k then l.getD (l.length - 1 - k) 0 else l.getD k 0
theorem RVi_len (l : List Int) (i : Nat) : (RVi l i).length = l.length := by simp [RVi]
theorem RVi_at (l : List Int) (i k : Nat) (h : k < l.length) : (RVi l i)[k]'(by rw [RVi_len]; exact h) = if k < i ∨ l.length - i ≤ k then l.getD (l.length - 1 - k) 0 else l.getD k 0 := by simp [RVi]
theorem RVi_zero (l : List Int) : RVi l 0 = l := by
  apply List.ext_getElem (RVi_len _ _)
  intro k h1 h2
  rw [RVi_at _ _ _ h2, if_neg (by omega), List.getD_eq_getElem?_getD, List.getElem?_eq_getElem h2]; rfl
theorem RVi_end (l : List Int) (i : Nat) (h : l.length ≤ 2 * i + 1) : RVi l i = l.reverse := by
  apply List.ext_getElem (by rw [RVi_len, List.length_reverse])
  intro k h1 h2
  rw [List.length_reverse] at h2
  rw [RVi_at _ _ _ h2, List.getElem_reverse]
  have e : l.getD (l.length - 1 - k) 0 = l[l.length - 1 - k]'(by omega) := by rw [List.getD_eq_getElem?_getD, List.getElem?_eq_getElem (by omega)]; rfl
  by_cases c : k < i ∨ l.length - i ≤ k
  · rw [if_pos c, e]
  · rw [if_neg c]
    have : l.length - 1 - k = k := by omega
    rw [← e, this]
theorem RVi_step (l : List Int) (i : Nat) (h : 2 * i + 1 < l.length) : ((RVi l i).set i (l.getD (l.length - 1 - i) 0)).set (l.length - 1 - i) (l.getD i 0) = RVi l (i + 1) := by
  apply List.ext_getElem (by simp [RVi_len])
  intro k h1 h2
  rw [RVi_len] at h2
  rw [RVi_at _ _ _ h2, List.getElem_set, List.getElem_set, RVi_at _ _ _ h2]
  by_cases c1 : l.length - 1 - i = k
  · rw [if_pos c1, if_pos (by omega), ← c1]
    congr 1
    omega
  · rw [if_neg c1]
    by_cases c2 : i = k
    · rw [if_pos c2, if_pos (by omega), c2]
    · rw [if_neg c2]
      by_cases c3 : k < i ∨ l.length - i ≤ k
      · rw [if_pos c3, if_pos (by omega)]
      · rw [if_neg c3, if_neg (by omega)]
theorem rev_loop (l : List Int) (n : Nat) (hn : l.length = n) (h100 : n < 1000) (j : Nat) (d : Nat) : ∀ (i : Nat) (m : LMem), n ≤ 2 * i + d → 1 ≤ n → 2 * i ≤ n → m[j]? = some ⟨ints (RVi l i), true⟩ →
    ∃ m', exF LP slices_Reverse_int_int.L0 [(0, .sl j 0 n n 1 1 n), (2, .int .i64 (i : Int)), (3, .int .i64 ((n : Int) - 1 - (i : Int)))] m = some (.exit 0, [], m') ∧ m'[j]? = some ⟨ints l.reverse, true⟩ ∧ (∀ k, k ≠ j → m'[k]? = m[k]?) ∧ m'.length = m.length := by
  induction d with
  | zero =>
    intro i m hd h1 h2 hm
    refine ⟨m, ?_, ?_, fun _ _ => rfl, rfl⟩
    · rw [slices_Reverse_int_int.L0_eq]
      simp only [slices_Reverse_int_int.B0, beqT, beqF, exF_seq, exF_region, exF_block, exF_cond, exF_ret, exF_exit, exF_skip, runL, wantL, stepL, evL, evC, LEnv.at, putL, loadFine, loadL, cellsAt, Trk.putNew, Trk.up, Trk.touch, Trk.gives, Trk.calm, Trk.hit, opdsOf, Trk.fresh, LEnv.keep, LEnv.ofFrom, List.map_cons, List.map_nil, nbeq, nble, nblt, ofAV, ofAVs, lenL, bin_add, bin_sub, bin_mul, bin_eql, bin_neq, bin_lss, bin_leq, bin_gtr, bin_geq, natL_nat, natL_zero, natL_one, natL_two, Nat.zero_mul, List.any_cons, List.any_nil, Bool.or_false, Bool.false_or, Bool.true_or, Bool.or_true, Bool.and_true, Bool.true_and, Bool.and_false, Bool.false_and, Bool.not_true, Bool.not_false, Nat.reduceBEq, Nat.reduceEqDiff, decide_true, decide_false, cond_true, cond_false, List.filter_nil, List.filter_cons, Nat.reduceAdd, Nat.reduceLeDiff, reduceCtorEq, List.length_nil, List.length_cons, Nat.mul_one, if_true, if_false, Bool.false_eq_true, eq_self, and_true, true_and, retL, resultsL, resAllL, resOfL, List.append_nil, List.nil_append, List.cons_append, true_or, or_true, false_or, or_false, false_and, and_false, not_true_eq_false, not_false_eq_true, ne_eq, unL, trim_nil, views_pures, LV.pures, LV.pure, freeze, Nat.reduceDiv, Int.reduceEq, Int.reduceLT, Int.reduceLE, Int.natCast_zero, LV.cells, allocL, List.getElem?_cons_zero, List.getElem?_cons_succ, storeL, spliceL, List.take_zero, List.take_succ_cons, List.drop_zero, List.drop_succ_cons, List.drop_nil, List.take_nil, Nat.le_refl, Nat.reduceMul, List.set_cons_zero, List.set_cons_succ, LV.scalar, List.all_cons, List.all_nil, Nat.lt_add_one, Nat.zero_lt_one, Nat.reduceLT, Nat.lt_irrefl, fillL, List.length_append, foldIntL, kind_beq, pures_int, solids_int, plains_int, unders_int, scalars_int, show ¬ ((i : Int) < (n : Int) - 1 - (i : Int)) by omega]
    · rw [hm, RVi_end l i (by omega)]
  | succ d ih =>
    intro i m hd h1 h2 hm
    by_cases c : 2 * i + 1 < n
    · have hlt : ((i : Int) < (n : Int) - 1 - (i : Int)) := by omega
      have eJ : (n : Int) - 1 - (i : Int) = ((n - 1 - i : Nat) : Int) := by omega
      have hw2 : IntKind.i64.wrap (((n - 1 - i : Nat) : Int) - 1) = (n : Int) - 1 - ((i + 1 : Nat) : Int) := by rw [wrap_in (by omega)]; omega
      have hj : j < m.length := (List.getElem?_eq_some_iff.1 hm).1
      have hj2 : ¬ m.length ≤ j := by omega
      have hR := RVi_len l i
      have a1 : (ints (RVi l i))[n - 1 - i]? = some (.int .i64 (l.getD (n - 1 - i) 0)) := by
        rw [intl_at _ _ (by rw [hR]; omega), RVi_at _ _ _ (by omega), if_neg (by omega)]
      have a2 : (ints (RVi l i))[i]? = some (.int .i64 (l.getD i 0)) := by
        rw [intl_at _ _ (by rw [hR]; omega), RVi_at _ _ _ (by omega), if_neg (by omega)]
      have hil : (ints (RVi l i)).length = n := by simp [hR, hn]
      have hb1 : i < (RVi l i).length := by rw [hR]; omega
      have hi : i < n := by omega
      have hq : n - 1 - i < n := by omega
      have s1 := set_int .i64 (RVi l i) i (l.getD (n - 1 - i) 0) hb1
      have hb2 : n - 1 - i < ((RVi l i).set i (l.getD (n - 1 - i) 0)).length := by rw [List.length_set, hR]; omega
      have s2 := set_int .i64 ((RVi l i).set i (l.getD (n - 1 - i) 0)) (n - 1 - i) (l.getD i 0) hb2
      have st := RVi_step l i (by omega)
      rw [hn] at st
      rw [st] at s2
      have hil2 : (ints ((RVi l i).set i (l.getD (n - 1 - i) 0))).length = n := by simp [hR, hn]
      obtain ⟨M2, hM2⟩ : ∃ M, M = m.set j ⟨ints ((RVi l i).set i (l.getD (n - 1 - i) 0)), true⟩ := ⟨_, rfl⟩
      have g2 : M2[j]? = some ⟨ints ((RVi l i).set i (l.getD (n - 1 - i) 0)), true⟩ := by rw [hM2, List.getElem?_set_self hj]
      obtain ⟨M3, hM3⟩ : ∃ M, M = M2.set j ⟨ints (RVi l (i + 1)), true⟩ := ⟨_, rfl⟩
      have g3 : M3[j]? = some ⟨ints (RVi l (i + 1)), true⟩ := by rw [hM3, List.getElem?_set_self (by rw [hM2, List.length_set]; exact hj)]
      obtain ⟨m', k1, k2, k3, k4⟩ := ih (i + 1) M3 (by omega) h1 (by omega) g3
      refine ⟨m', ?_, k2, fun k hk => ?_, ?_⟩
      · rw [slices_Reverse_int_int.L0_eq, ← k1, eJ]
        rw [eJ] at hlt
        generalize n - 1 - i = q at *
        generalize l.getD q 0 = x at *
        generalize l.getD i 0 = y at *
        generalize RVi l (i + 1) = L3 at *
        generalize hL2 : (RVi l i).set i x = L2 at *
        generalize RVi l i = L1 at *
        have hi1 : i + 1 ≤ n := hi
        have hq1 : q + 1 ≤ n := hq
        simp only [slices_Reverse_int_int.B0, beqT, beqF, exF_seq, exF_region, exF_block, exF_cond, exF_ret, exF_exit, exF_skip, runL, wantL, stepL, evL, evC, LEnv.at, putL, loadFine, loadL, cellsAt, Trk.putNew, Trk.up, Trk.touch, Trk.gives, Trk.calm, Trk.hit, opdsOf, Trk.fresh, LEnv.keep, LEnv.ofFrom, List.map_cons, List.map_nil, nbeq, nble, nblt, ofAV, ofAVs, lenL, bin_add, bin_sub, bin_mul, bin_eql, bin_neq, bin_lss, bin_leq, bin_gtr, bin_geq, natL_nat, natL_zero, natL_one, natL_two, Nat.zero_mul, List.any_cons, List.any_nil, Bool.or_false, Bool.false_or, Bool.true_or, Bool.or_true, Bool.and_true, Bool.true_and, Bool.and_false, Bool.false_and, Bool.not_true, Bool.not_false, Nat.reduceBEq, Nat.reduceEqDiff, decide_true, decide_false, cond_true, cond_false, List.filter_nil, List.filter_cons, Nat.reduceAdd, Nat.reduceLeDiff, reduceCtorEq, List.length_nil, List.length_cons, Nat.mul_one, if_true, if_false, Bool.false_eq_true, eq_self, and_true, true_and, retL, resultsL, resAllL, resOfL, List.append_nil, List.nil_append, List.cons_append, true_or, or_true, false_or, or_false, false_and, and_false, not_true_eq_false, not_false_eq_true, ne_eq, unL, trim_nil, views_pures, LV.pures, LV.pure, freeze, Nat.reduceDiv, Int.reduceEq, Int.reduceLT, Int.reduceLE, Int.natCast_zero, LV.cells, allocL, List.getElem?_cons_zero, List.getElem?_cons_succ, storeL, spliceL, List.take_zero, List.take_succ_cons, List.drop_zero, List.drop_succ_cons, List.drop_nil, List.take_nil, Nat.le_refl, Nat.reduceMul, List.set_cons_zero, List.set_cons_succ, LV.scalar, List.all_cons, List.all_nil, Nat.lt_add_one, Nat.zero_lt_one, Nat.reduceLT, Nat.lt_irrefl, fillL, List.length_append, foldIntL, kind_beq, pures_int, solids_int, plains_int, unders_int, scalars_int, hlt, hj2, hm, hil, hi, hq, hi1, hq1, Nat.zero_add, a1, a2, s1, ← hM2, g2, hil2, s2, ← hM3, hw2, wrap_succ (show i + 1 < 9223372036854775808 by omega)]
      · rw [k3 k hk, hM3, List.getElem?_set_ne (Ne.symm hk), hM2, List.getElem?_set_ne (Ne.symm hk)]
      · rw [k4, hM3, List.length_set, hM2, List.length_set]
    · refine ⟨m, ?_, ?_, fun _ _ => rfl, rfl⟩
      · rw [slices_Reverse_int_int.L0_eq]
        simp only [slices_Reverse_int_int.B0, beqT, beqF, exF_seq, exF_region, exF_block, exF_cond, exF_ret, exF_exit, exF_skip, runL, wantL, stepL, evL, evC, LEnv.at, putL, loadFine, loadL, cellsAt, Trk.putNew, Trk.up, Trk.touch, Trk.gives, Trk.calm, Trk.hit, opdsOf, Trk.fresh, LEnv.keep, LEnv.ofFrom, List.map_cons, List.map_nil, nbeq, nble, nblt, ofAV, ofAVs, lenL, bin_add, bin_sub, bin_mul, bin_eql, bin_neq, bin_lss, bin_leq, bin_gtr, bin_geq, natL_nat, natL_zero, natL_one, natL_two, Nat.zero_mul, List.any_cons, List.any_nil, Bool.or_false, Bool.false_or, Bool.true_or, Bool.or_true, Bool.and_true, Bool.true_and, Bool.and_false, Bool.false_and, Bool.not_true, Bool.not_false, Nat.reduceBEq, Nat.reduceEqDiff, decide_true, decide_false, cond_true, cond_false, List.filter_nil, List.filter_cons, Nat.reduceAdd, Nat.reduceLeDiff, reduceCtorEq, List.length_nil, List.length_cons, Nat.mul_one, if_true, if_false, Bool.false_eq_true, eq_self, and_true, true_and, retL, resultsL, resAllL, resOfL, List.append_nil, List.nil_append, List.cons_append, true_or, or_true, false_or, or_false, false_and, and_false, not_true_eq_false, not_false_eq_true, ne_eq, unL, trim_nil, views_pures, LV.pures, LV.pure, freeze, Nat.reduceDiv, Int.reduceEq, Int.reduceLT, Int.reduceLE, Int.natCast_zero, LV.cells, allocL, List.getElem?_cons_zero, List.getElem?_cons_succ, storeL, spliceL, List.take_zero, List.take_succ_cons, List.drop_zero, List.drop_succ_cons, List.drop_nil, List.take_nil, Nat.le_refl, Nat.reduceMul, List.set_cons_zero, List.set_cons_succ, LV.scalar, List.all_cons, List.all_nil, Nat.lt_add_one, Nat.zero_lt_one, Nat.reduceLT, Nat.lt_irrefl, fillL, List.length_append, foldIntL, kind_beq, pures_int, solids_int, plains_int, unders_int, scalars_int, show ¬ ((i : Int) < (n : Int) - 1 - (i : Int)) by omega]
      · rw [hm, RVi_end l i (by omega)]
theorem rev_w (l : List Int) (n : Nat) (hn : l.length = n) (h100 : n < 1000) (h1 : 1 ≤ n) (j : Nat) (m : LMem) (hm : m[j]? = some ⟨ints l, true⟩) : ∃ m', clF LP n_slices_Reverse_int_int [.sl j 0 n n 1 1 n] m = some (.W, .tup [], m') ∧ m'[j]? = some ⟨ints l.reverse, true⟩ ∧ (∀ k, k ≠ j → m'[k]? = m[k]?) ∧ m'.length = m.length := by
  obtain ⟨m', k1, k2, k3, k4⟩ := rev_loop l n hn h100 j n 0 m (by omega) h1 (by omega) (by rw [RVi_zero]; exact hm)
  refine ⟨m', ?_, k2, k3, k4⟩
  rw [Int.natCast_zero, show (n : Int) - 1 - 0 = (n : Int) - 1 by omega] at k1
  have hw : IntKind.i64.wrap ((n : Int) - 1) = (n : Int) - 1 := wrap_in (by omega)
  have h := call_W (v := .tup []) (m1 := m') lp_slices_Reverse_int_int rfl (args := [.sl j 0 n n 1 1 n]) (m := m) (by simp only [slices_Reverse_int_int, slices_Reverse_int_int.B, beqT, beqF, exF_seq, exF_region, exF_block, exF_cond, exF_ret, exF_exit, exF_skip, runL, wantL, stepL, evL, evC, LEnv.at, putL, loadFine, loadL, cellsAt, Trk.putNew, Trk.up, Trk.touch, Trk.gives, Trk.calm, Trk.hit, opdsOf, Trk.fresh, LEnv.keep, LEnv.ofFrom, List.map_cons, List.map_nil, nbeq, nble, nblt, ofAV, ofAVs, lenL, bin_add, bin_sub, bin_mul, bin_eql, bin_neq, bin_lss, bin_leq, bin_gtr, bin_geq, natL_nat, natL_zero, natL_one, natL_two, Nat.zero_mul, List.any_cons, List.any_nil, Bool.or_false, Bool.false_or, Bool.true_or, Bool.or_true, Bool.and_true, Bool.true_and, Bool.and_false, Bool.false_and, Bool.not_true, Bool.not_false, Nat.reduceBEq, Nat.reduceEqDiff, decide_true, decide_false, cond_true, cond_false, List.filter_nil, List.filter_cons, Nat.reduceAdd, Nat.reduceLeDiff, reduceCtorEq, List.length_nil, List.length_cons, Nat.mul_one, if_true, if_false, Bool.false_eq_true, eq_self, and_true, true_and, retL, resultsL, resAllL, resOfL, List.append_nil, List.nil_append, List.cons_append, true_or, or_true, false_or, or_false, false_and, and_false, not_true_eq_false, not_false_eq_true, ne_eq, unL, trim_nil, views_pures, LV.pures, LV.pure, freeze, Nat.reduceDiv, Int.reduceEq, Int.reduceLT, Int.reduceLE, Int.natCast_zero, LV.cells, allocL, List.getElem?_cons_zero, List.getElem?_cons_succ, storeL, spliceL, List.take_zero, List.take_succ_cons, List.drop_zero, List.drop_succ_cons, List.drop_nil, List.take_nil, Nat.le_refl, Nat.reduceMul, List.set_cons_zero, List.set_cons_succ, LV.scalar, List.all_cons, List.all_nil, Nat.lt_add_one, Nat.zero_lt_one, Nat.reduceLT, Nat.lt_irrefl, fillL, List.length_append, foldIntL, kind_beq, pures_int, solids_int, plains_int, unders_int, scalars_int, hw, k1])
  rw [h, trim_le _ _ _ (by omega)]
end Go.Am.Ring

