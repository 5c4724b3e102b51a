/-
  What functions of chapter 04 compute, 7: the reference's lists of orders.
-/
import Derived.Test.YtheppipmnfjdcaaRingC6
import Derived.Test.YtheppipmnfjdcaaRingP3
set_option linter.unusedVariables false
set_option linter.unusedSimpArgs false
set_option maxRecDepth 10000
namespace Go.Am.Ring
open Go.Am.G

def mk : List Nat → Nat
  | [] => 0
  | x :: r => mk r ||| 2 ^ x
theorem mk_bit : ∀ (l : List Nat) (p : Nat), (mk l).testBit p = decide (p ∈ l)
  | [], p => by simp [mk]
  | x :: r, p => by
    rw [mk, or_bit, mk_bit r, Bool.eq_iff_iff]
    simp only [Bool.or_eq_true, decide_eq_true_eq, List.mem_cons]
    constructor
    · rintro (h | h)
      · exact .inr h
      · exact .inl h.symm
    · rintro (h | h)
      · exact .inr h.symm
      · exact .inl h
theorem mk_snoc (l : List Nat) (x : Nat) : mk (l ++ [x]) = mk l ||| 2 ^ x := by
  induction l with
  | nil => simp [mk]
  | cons a r ih => rw [List.cons_append, mk, mk, ih, Nat.or_assoc, Nat.or_assoc, Nat.or_comm (2 ^ x)]
/-- All orders that begin with some forms. -/
def subO (n u : Nat) (b : List Nat) : List (List Nat) := (compsU anyM n u (mk b)).map (b ++ ·)
theorem subO_succ (n u : Nat) (b : List Nat) : subO n (u + 1) b = (List.range n).flatMap fun f => if f ∈ b then [] else subO n u (b ++ [f]) := by
  unfold subO
  rw [compsU, List.map_flatMap]
  congr 1
  funext f
  rw [mk_bit]
  by_cases h : f ∈ b
  · simp [h]
  · simp only [h, decide_false, anyM, Bool.not_true, Bool.or_false, Bool.false_eq_true, if_false, mk_snoc, List.map_map]
    apply List.map_congr_left
    intro o _
    simp
theorem subO_len (n : Nat) (hn : n ≤ 6) : ∀ (u : Nat) (b : List Nat), (subO n u b).length ≤ 6 ^ u
  | 0, b => by simp [subO, compsU]
  | u + 1, b => by
    rw [subO_succ, List.length_flatMap]
    have : ∀ l : List Nat, (l.map fun f => (if f ∈ b then [] else subO n u (b ++ [f])).length).sum ≤ l.length * 6 ^ u := by
      intro l
      induction l with
      | nil => simp
      | cons f l ih =>
        rw [List.map_cons, List.sum_cons, List.length_cons, Nat.add_mul, Nat.one_mul]
        have : (if f ∈ b then ([] : List (List Nat)) else subO n u (b ++ [f])).length ≤ 6 ^ u := by
          split
          · simp
          · exact subO_len n hn u _
        omega
    have h := this (List.range n)
    rw [List.length_range] at h
    refine Nat.le_trans h ?_
    rw [Nat.pow_succ, Nat.mul_comm]
    exact Nat.mul_le_mul_left _ hn
abbrev rows (R : List (List Nat)) : List LV := R.map fun o => rlv (ci o)
theorem rows_scalar (R : List (List Nat)) : (rows R).all LV.scalar = true := by simp [LV.scalar]
theorem rows_pures (R : List (List Nat)) : LV.pures (rows R) = true := by
  induction R with
  | nil => rfl
  | cons a r ih => simp [LV.pures, LV.pure, ih]
theorem orders_loop (n : Nat) (hn : 1 ≤ n ∧ n ≤ 6) (u : Nat) (hu : u ≤ 6) (b : List Nat) (hb : b.length ≤ 6) (sub : Nat → List (List Nat)) (hsub : ∀ f, (sub f).length ≤ 6 ^ u)
    (hrec : ∀ f, f < n → f ∉ b → ∃ nl ex, clF LP n_ref04_orders [.int .i64 (n : Int), RL (ci (b ++ [f]))] [] = some (.P, .lst nl ex 1 (sub f).length (rows (sub f)), [])) (j : Nat) :
    ∀ (f : Nat) (M : LMem) (v : LV) (R : List (List Nat)), f + j = n → R.length ≤ f * 6 ^ u → Lst M v 1 R.length (rows R) →
    ∃ v' M', exF LP ref04_orders.L0 [(0, .int .i64 (n : Int)), (1, RL (ci b)), (5, v), (6, .int .i64 (f : Int))] M = some (.exit 0, [(5, v')], M') ∧
      Lst M' v' 1 (R ++ (List.range' f j).flatMap fun f => if f ∈ b then [] else sub f).length (rows (R ++ (List.range' f j).flatMap fun f => if f ∈ b then [] else sub f)) := by
  induction j with
  | zero =>
    intro f M v R hf hR hL
    refine ⟨v, M, ?_, by simpa using hL⟩
    rw [ref04_orders.L0_eq]
    simp only [ref04_orders.B0, beqT, beqF, exF_seq, exF_region, exF_block, exF_cond, exF_ret, exF_exit, exF_skip, runL, wantL, stepL, evL, evC, LEnv.at, putL, loadFine, loadL, cellsAt, Trk.putNew, Trk.up, Trk.touch, Trk.gives, Trk.calm, Trk.hit, opdsOf, Trk.fresh, LEnv.keep, LEnv.ofFrom, List.map_cons, List.map_nil, nbeq, nble, nblt, ofAV, ofAVs, lenL, bin_add, bin_sub, bin_mul, bin_eql, bin_neq, bin_lss, bin_leq, bin_gtr, bin_geq, natL_nat, natL_zero, natL_one, natL_two, Nat.zero_mul, List.any_cons, List.any_nil, Bool.or_false, Bool.false_or, Bool.true_or, Bool.or_true, Bool.and_true, Bool.true_and, Bool.and_false, Bool.false_and, Bool.not_true, Bool.not_false, Nat.reduceBEq, Nat.reduceEqDiff, decide_true, decide_false, cond_true, cond_false, List.filter_nil, List.filter_cons, Nat.reduceAdd, Nat.reduceLeDiff, reduceCtorEq, List.length_nil, List.length_cons, Nat.mul_one, if_true, if_false, Bool.false_eq_true, eq_self, and_true, true_and, retL, resultsL, resAllL, resOfL, List.append_nil, List.nil_append, List.cons_append, true_or, or_true, false_or, or_false, false_and, and_false, not_true_eq_false, not_false_eq_true, ne_eq, unL, trim_nil, views_pures, LV.pures, LV.pure, freeze, Nat.reduceDiv, Int.reduceEq, Int.reduceLT, Int.reduceLE, Int.natCast_zero, LV.cells, allocL, List.getElem?_cons_zero, List.getElem?_cons_succ, storeL, spliceL, List.take_zero, List.take_succ_cons, List.drop_zero, List.drop_succ_cons, List.drop_nil, List.take_nil, Nat.le_refl, Nat.reduceMul, List.set_cons_zero, List.set_cons_succ, LV.scalar, List.all_cons, List.all_nil, Nat.lt_add_one, Nat.zero_lt_one, Nat.reduceLT, Nat.lt_irrefl, fillL, List.length_append, foldIntL, kind_beq, pures_int, solids_int, plains_int, unders_int, scalars_int, show ¬ ((f : Int) < (n : Int)) by omega]
  | succ j ih =>
    intro f M v R hf hR hL
    have hfi : (f : Int) < (n : Int) := by omega
    have hw := wrap_succ (show f + 1 < 9223372036854775808 by omega)
    have hp := fun m => place_c (decide (ci b = [])) (decide (ci b = [])) (cond (decide (ci b = [])) 0 1) (ci b) (f : Int) (by rw [ci_len]; omega) m
    have hpm := plc_mem (ci b) (f : Int)
    rw [ci_mem] at hpm
    have h6 : 6 ^ u ≤ 46656 := by
      have : 6 ^ u ≤ 6 ^ 6 := Nat.pow_le_pow_right (by omega) hu
      exact this
    generalize 6 ^ u = K at *
    have h4 : (f + 1) * K = f * K + K := by rw [Nat.add_mul, Nat.one_mul]
    have h7 : f * K ≤ 6 * 46656 := Nat.mul_le_mul (by omega) h6
    by_cases hfb : f ∈ b
    · obtain ⟨v', M', he, hL'⟩ := ih (f + 1) M v R (by omega) (by rw [h4]; omega) hL
      refine ⟨v', M', ?_, ?_⟩
      · have c := hpm.2 hfb
        rw [ref04_orders.L0_eq]
        simp only [ref04_orders.B0, beqT, beqF, exF_seq, exF_region, exF_block, exF_cond, exF_ret, exF_exit, exF_skip, runL, wantL, stepL, evL, evC, LEnv.at, putL, loadFine, loadL, cellsAt, Trk.putNew, Trk.up, Trk.touch, Trk.gives, Trk.calm, Trk.hit, opdsOf, Trk.fresh, LEnv.keep, LEnv.ofFrom, List.map_cons, List.map_nil, nbeq, nble, nblt, ofAV, ofAVs, lenL, bin_add, bin_sub, bin_mul, bin_eql, bin_neq, bin_lss, bin_leq, bin_gtr, bin_geq, natL_nat, natL_zero, natL_one, natL_two, Nat.zero_mul, List.any_cons, List.any_nil, Bool.or_false, Bool.false_or, Bool.true_or, Bool.or_true, Bool.and_true, Bool.true_and, Bool.and_false, Bool.false_and, Bool.not_true, Bool.not_false, Nat.reduceBEq, Nat.reduceEqDiff, decide_true, decide_false, cond_true, cond_false, List.filter_nil, List.filter_cons, Nat.reduceAdd, Nat.reduceLeDiff, reduceCtorEq, List.length_nil, List.length_cons, Nat.mul_one, if_true, if_false, Bool.false_eq_true, eq_self, and_true, true_and, retL, resultsL, resAllL, resOfL, List.append_nil, List.nil_append, List.cons_append, true_or, or_true, false_or, or_false, false_and, and_false, not_true_eq_false, not_false_eq_true, ne_eq, unL, trim_nil, views_pures, LV.pures, LV.pure, freeze, Nat.reduceDiv, Int.reduceEq, Int.reduceLT, Int.reduceLE, Int.natCast_zero, LV.cells, allocL, List.getElem?_cons_zero, List.getElem?_cons_succ, storeL, spliceL, List.take_zero, List.take_succ_cons, List.drop_zero, List.drop_succ_cons, List.drop_nil, List.take_nil, Nat.le_refl, Nat.reduceMul, List.set_cons_zero, List.set_cons_succ, LV.scalar, List.all_cons, List.all_nil, Nat.lt_add_one, Nat.zero_lt_one, Nat.reduceLT, Nat.lt_irrefl, fillL, List.length_append, foldIntL, kind_beq, pures_int, solids_int, plains_int, unders_int, scalars_int, hfi, hp, show ¬ plc (ci b) (f : Int) < 0 by omega, hw, he]
      · rw [List.range'_succ, List.flatMap_cons, if_pos hfb, List.nil_append]
        exact hL'
    · have c : plc (ci b) (f : Int) < 0 := by
        have : ¬ 0 ≤ plc (ci b) (f : Int) := fun c => hfb (hpm.1 c)
        omega
      obtain ⟨nl, ex, hr⟩ := hrec f (by omega) hfb
      have c1 := app_clone M (decide (ci b = [])) (decide (ci b = [])) (cond (decide (ci b = [])) 0 1) (ci b) (by rw [ci_len]; omega) (by
        by_cases h0 : ci b = []
        · exact .inl h0
        · exact .inr (by simp [h0]))
      have c2 := app_two M (ci b) (f : Int) (by rw [ci_len]; omega)
      have e1 : ci (b ++ [f]) = ci b ++ [(f : Int)] := by simp
      have hne : ci b ++ [(f : Int)] ≠ [] := by simp
      rw [e1] at hr
      have hv : views (M ++ GM (ci b ++ [(f : Int)])) [.int .i64 (n : Int), GV M.length (ci b ++ [(f : Int)])] = some ([.int .i64 (n : Int), RL (ci b ++ [(f : Int)])], [M.length]) := by
        have := views_snd 92 (M ++ GM (ci b ++ [(f : Int)])) (.int .i64 (n : Int)) (GV M.length (ci b ++ [(f : Int)])) (RL (ci b ++ [(f : Int)])) [M.length] (fun k => by
          have := view_grow k M (ci b ++ [(f : Int)])
          rw [if_neg hne] at this
          exact this) rfl (by simp [GV, hne, LV.pures, LV.pure])
        exact this
      obtain ⟨m1, hc, hkeep, hlen⟩ := call_shown lp_ref04_orders rfl hv (by simp [LV.pures, LV.pure]) hr
      have hblk : ∀ i, isBlk v i → i < M.length := fun i hi => hL.lt i hi
      have hL1 : Lst m1 v 1 R.length (rows R) := hL.mono fun i hi => by
        rw [hkeep i (by have := hblk i hi; simp; omega), List.getElem?_append_left (hblk i hi)]
      have hsl := hsub f
      have hvn : ∀ m, views m [] = some ([], []) := fun _ => rfl
      have hfn : ∀ m, freeze [] m = m := freeze_nil
      have hvi : ∀ m (x : Int), views m [.int .i64 x] = some ([.int .i64 x], []) := fun m x => rfl
      have hci : ∀ (x : Int), (LV.int .i64 x).cells = some [.int .i64 x] := fun x => rfl
      obtain ⟨v2, M2, ha, hL2, _, _, _⟩ := hL1.append (x := .lst nl ex 1 (sub f).length (rows (sub f))) (k := (sub f).length) (news := rows (sub f)) (bytes := 24) (by simp [contents, nbeq]) (by simp) (by omega) (by omega) (rows_scalar _)
      rw [← List.map_append, ← List.length_append] at hL2
      obtain ⟨v', M', he, hL'⟩ := ih (f + 1) M2 v2 (R ++ sub f) (by omega) (by rw [h4, List.length_append]; omega) hL2
      refine ⟨v', M', ?_, ?_⟩
      · rw [ref04_orders.L0_eq]
        simp only [ref04_orders.B0, beqT, beqF, exF_seq, exF_region, exF_block, exF_cond, exF_ret, exF_exit, exF_skip, runL, wantL, stepL, evL, evC, LEnv.at, putL, loadFine, loadL, cellsAt, Trk.putNew, Trk.up, Trk.touch, Trk.gives, Trk.calm, Trk.hit, opdsOf, Trk.fresh, LEnv.keep, LEnv.ofFrom, List.map_cons, List.map_nil, nbeq, nble, nblt, ofAV, ofAVs, lenL, bin_add, bin_sub, bin_mul, bin_eql, bin_neq, bin_lss, bin_leq, bin_gtr, bin_geq, natL_nat, natL_zero, natL_one, natL_two, Nat.zero_mul, List.any_cons, List.any_nil, Bool.or_false, Bool.false_or, Bool.true_or, Bool.or_true, Bool.and_true, Bool.true_and, Bool.and_false, Bool.false_and, Bool.not_true, Bool.not_false, Nat.reduceBEq, Nat.reduceEqDiff, decide_true, decide_false, cond_true, cond_false, List.filter_nil, List.filter_cons, Nat.reduceAdd, Nat.reduceLeDiff, reduceCtorEq, List.length_nil, List.length_cons, Nat.mul_one, if_true, if_false, Bool.false_eq_true, eq_self, and_true, true_and, retL, resultsL, resAllL, resOfL, List.append_nil, List.nil_append, true_or, or_true, false_or, or_false, false_and, and_false, not_true_eq_false, not_false_eq_true, ne_eq, unL, trim_nil, LV.pures, LV.pure, Nat.reduceDiv, Int.reduceEq, Int.reduceLT, Int.reduceLE, Int.natCast_zero, allocL, List.getElem?_cons_zero, List.getElem?_cons_succ, storeL, spliceL, List.take_zero, List.take_succ_cons, List.drop_zero, List.drop_succ_cons, List.drop_nil, List.take_nil, Nat.le_refl, Nat.reduceMul, List.set_cons_zero, List.set_cons_succ, LV.scalar, List.all_cons, List.all_nil, Nat.lt_add_one, Nat.zero_lt_one, Nat.reduceLT, Nat.lt_irrefl, fillL, foldIntL, kind_beq, pures_int, solids_int, plains_int, unders_int, scalars_int, hfi, hp, c, hvn, hfn, c1, hvi, hci, c2, hc, ha, hw, he]
      · rw [List.range'_succ, List.flatMap_cons, if_neg hfb, ← List.append_assoc]
        exact hL'
theorem ci_ne {b : List Nat} (h : b ≠ []) : ci b ≠ [] := by simpa using h
theorem RL_ne {l : List Int} (h : l ≠ []) : RL l = rlv l := by simp [RL, h]
theorem orders_c (n : Nat) (hn : 1 ≤ n ∧ n ≤ 6) : ∀ (u : Nat) (b : List Nat), b.length + u = n → leftN n (mk b) = u → ∃ nl ex, ∀ m, clF LP n_ref04_orders [.int .i64 (n : Int), RL (ci b)] m = some (.P, .lst nl ex 1 (subO n u b).length (rows (subO n u b)), m)
  | 0, b, hb, hu => by
    have hbe : b ≠ [] := by intro c; subst c; simp at hb; omega
    have hne := ci_ne hbe
    refine ⟨false, true, fun m => ?_⟩
    have e : subO n 0 b = [b] := by simp [subO, compsU]
    rw [e]
    refine call_P lp_ref04_orders rfl (by simp [LV.pures, LV.pure]) (m1 := []) ?_ (by simp [LV.pure, LV.pures]) m
    have hl : ((b.length : Nat) : Int) = (n : Int) := by omega
    have hr := RL_ne hne
    simp only [ref04_orders, ref04_orders.B, beqT, beqF, exF_seq, exF_region, exF_block, exF_cond, exF_ret, exF_exit, exF_skip, runL, wantL, stepL, evL, evC, LEnv.at, putL, loadFine, loadL, cellsAt, Trk.putNew, Trk.up, Trk.touch, Trk.gives, Trk.calm, Trk.hit, opdsOf, Trk.fresh, LEnv.keep, LEnv.ofFrom, List.map_cons, List.map_nil, nbeq, nble, nblt, ofAV, ofAVs, lenL, bin_add, bin_sub, bin_mul, bin_eql, bin_neq, bin_lss, bin_leq, bin_gtr, bin_geq, natL_nat, natL_zero, natL_one, natL_two, Nat.zero_mul, List.any_cons, List.any_nil, Bool.or_false, Bool.false_or, Bool.true_or, Bool.or_true, Bool.and_true, Bool.true_and, Bool.and_false, Bool.false_and, Bool.not_true, Bool.not_false, Nat.reduceBEq, Nat.reduceEqDiff, decide_true, decide_false, cond_true, cond_false, List.filter_nil, List.filter_cons, Nat.reduceAdd, Nat.reduceLeDiff, reduceCtorEq, List.length_nil, List.length_cons, Nat.mul_one, if_true, if_false, Bool.false_eq_true, eq_self, and_true, true_and, retL, resultsL, resAllL, resOfL, List.append_nil, List.nil_append, List.cons_append, true_or, or_true, false_or, or_false, false_and, and_false, not_true_eq_false, not_false_eq_true, ne_eq, unL, trim_nil, views_pures, LV.pures, LV.pure, freeze, Nat.reduceDiv, Int.reduceEq, Int.reduceLT, Int.reduceLE, Int.natCast_zero, LV.cells, allocL, List.getElem?_cons_zero, List.getElem?_cons_succ, storeL, spliceL, List.take_zero, List.take_succ_cons, List.drop_zero, List.drop_succ_cons, List.drop_nil, List.take_nil, Nat.le_refl, Nat.reduceMul, List.set_cons_zero, List.set_cons_succ, LV.scalar, List.all_cons, List.all_nil, Nat.lt_add_one, Nat.zero_lt_one, Nat.reduceLT, Nat.lt_irrefl, fillL, List.length_append, foldIntL, kind_beq, pures_int, solids_int, plains_int, unders_int, scalars_int, ci_len, hl]
    simp [hne]
  | u + 1, b, hb, hu => by
    have hrec : ∀ f, f < n → f ∉ b → ∃ nl ex, clF LP n_ref04_orders [.int .i64 (n : Int), RL (ci (b ++ [f]))] [] = some (.P, .lst nl ex 1 (subO n u (b ++ [f])).length (rows (subO n u (b ++ [f]))), []) := by
      intro f hf hfb
      obtain ⟨nl, ex, h⟩ := orders_c n hn u (b ++ [f]) (by simp; omega) (by
        have := leftN_next (mk b) f (by rw [mk_bit]; simpa using hfb) n hf
        rw [mk_snoc]; omega)
      exact ⟨nl, ex, h []⟩
    obtain ⟨v', M', he, hL⟩ := orders_loop n hn u (by omega) b (by omega) (fun f => subO n u (b ++ [f])) (fun f => subO_len n hn.2 u _) hrec n 0 [] (.lst true true 0 0 []) [] (by omega) (by simp) (Lst.nil [] 1)
    rw [List.nil_append, ← List.range_eq_range', ← subO_succ] at hL
    obtain ⟨x, y, z, ids, hz, _, _, hvw⟩ := hL.view (rows_pures _) (by omega)
    have hpos : (subO n (u + 1) b).length ≠ 0 := by
      have := ords_ne n (u + 1) (mk b) hu
      simpa [subO] using this
    obtain rfl : z = 1 := by rcases hz with h | h; exact absurd h hpos; exact h
    refine ⟨x, y, fun m => ?_⟩
    refine call_Pv lp_ref04_orders rfl (by simp [LV.pures, LV.pure]) (m1 := M') (v := v') (ids := ids) ?_ (hvw 97) m
    have hl : ¬ ((b.length : Nat) : Int) = (n : Int) := by omega
    simp only [Int.natCast_zero] at he
    simp only [ref04_orders, ref04_orders.B, beqT, beqF, exF_seq, exF_region, exF_block, exF_cond, exF_ret, exF_exit, exF_skip, runL, wantL, stepL, evL, evC, LEnv.at, putL, loadFine, loadL, cellsAt, Trk.putNew, Trk.up, Trk.touch, Trk.gives, Trk.calm, Trk.hit, opdsOf, Trk.fresh, LEnv.keep, LEnv.ofFrom, List.map_cons, List.map_nil, nbeq, nble, nblt, ofAV, ofAVs, lenL, bin_add, bin_sub, bin_mul, bin_eql, bin_neq, bin_lss, bin_leq, bin_gtr, bin_geq, natL_nat, natL_zero, natL_one, natL_two, Nat.zero_mul, List.any_cons, List.any_nil, Bool.or_false, Bool.false_or, Bool.true_or, Bool.or_true, Bool.and_true, Bool.true_and, Bool.and_false, Bool.false_and, Bool.not_true, Bool.not_false, Nat.reduceBEq, Nat.reduceEqDiff, decide_true, decide_false, cond_true, cond_false, List.filter_nil, List.filter_cons, Nat.reduceAdd, Nat.reduceLeDiff, reduceCtorEq, List.length_nil, List.length_cons, Nat.mul_one, if_true, if_false, Bool.false_eq_true, eq_self, and_true, true_and, retL, resultsL, resAllL, resOfL, List.append_nil, List.nil_append, List.cons_append, true_or, or_true, false_or, or_false, false_and, and_false, not_true_eq_false, not_false_eq_true, ne_eq, unL, trim_nil, views_pures, LV.pures, LV.pure, freeze, Nat.reduceDiv, Int.reduceEq, Int.reduceLT, Int.reduceLE, Int.natCast_zero, LV.cells, allocL, List.getElem?_cons_zero, List.getElem?_cons_succ, storeL, spliceL, List.take_zero, List.take_succ_cons, List.drop_zero, List.drop_succ_cons, List.drop_nil, List.take_nil, Nat.le_refl, Nat.reduceMul, List.set_cons_zero, List.set_cons_succ, LV.scalar, List.all_cons, List.all_nil, Nat.lt_add_one, Nat.zero_lt_one, Nat.reduceLT, Nat.lt_irrefl, fillL, List.length_append, foldIntL, kind_beq, pures_int, solids_int, plains_int, unders_int, scalars_int, ci_len, hl, he]
theorem ordersN_c (n : Nat) (hn : 1 ≤ n ∧ n ≤ 6) : ∃ nl ex, ∀ m, clF LP n_ref04_orders [.int .i64 (n : Int), .lst true true 0 0 []] m = some (.P, .lst nl ex 1 (ords n).length (rows (ords n)), m) := by
  have e : subO n n [] = ords n := by simp [subO, mk]
  have := orders_c n hn n [] (by simp) (leftN_none n)
  rw [e] at this
  exact this
theorem ords_len (n : Nat) (hn : n ≤ 6) : (ords n).length ≤ 46656 := by
  have h := subO_len n hn n []
  have e : subO n n [] = ords n := by simp [subO, mk]
  rw [e] at h
  have : 6 ^ n ≤ 6 ^ 6 := Nat.pow_le_pow_right (by omega) hn
  exact Nat.le_trans h this

/-! ### The best orders -/
def bestS (P : List (Nat × Nat)) : List (List Nat) → List (List Nat) → List (List Nat)
  | out, [] => out
  | out, o :: r => bestS P (if out = [] then [o] else if contr P o < contr P (out.headD []) then [o] else if contr P o = contr P (out.headD []) then out ++ [o] else out) r
theorem bestS_min (P : List (Nat × Nat)) (m : Nat) : ∀ (l out : List (List Nat)), (∃ c, (∀ o ∈ out, contr P o = c) ∧ m ≤ c ∧ (c = m ∨ ∃ o ∈ l, contr P o = m)) → (∀ o ∈ l, m ≤ contr P o) → (out = [] → ∃ o ∈ l, contr P o = m) → (out ≠ [] ∨ l ≠ []) →
    bestS P out l = (out ++ l).filter fun o => decide (contr P o = m)
  | [], out, ⟨c, h1, h2, h3⟩, h4, h5, h6 => by
    have hne : out ≠ [] := by simpa using h6
    have hc : c = m := by
      rcases h3 with h | ⟨o, ho, _⟩
      · exact h
      · simp at ho
    rw [bestS, List.append_nil, List.filter_eq_self.2]
    intro o ho
    simp [h1 o ho, hc]
  | o :: r, out, ⟨c, h1, h2, h3⟩, h4, h5, h6 => by
    have ho := h4 o (by simp)
    have hr := fun x (hx : x ∈ r) => h4 x (by simp [hx])
    rw [bestS]
    by_cases he : out = []
    · subst he
      rw [if_pos rfl]
      obtain ⟨x, hx, hxm⟩ := h5 rfl
      rw [bestS_min P m r [o] ⟨contr P o, by simp, ho, ?_⟩ hr (by simp) (.inl (by simp))]
      · simp
      · rcases List.mem_cons.1 hx with rfl | hx
        · exact .inl hxm
        · exact .inr ⟨x, hx, hxm⟩
    · rw [if_neg he]
      have hh : contr P (out.headD []) = c := by
        cases out with
        | nil => exact absurd rfl he
        | cons a t => exact h1 a (by simp)
      rw [hh]
      by_cases c1 : contr P o < c
      · rw [if_pos c1, bestS_min P m r [o] ⟨contr P o, by simp, ho, ?_⟩ hr (by simp) (.inl (by simp))]
        · have : out.filter (fun o => decide (contr P o = m)) = [] := by
            rw [List.filter_eq_nil_iff]
            intro x hx
            have := h1 x hx
            simp; omega
          rw [List.filter_append, List.filter_append, this, List.nil_append, ← List.filter_append]
          simp
        · rcases h3 with h | ⟨x, hx, hxm⟩
          · omega
          · rcases List.mem_cons.1 hx with rfl | hx
            · exact .inl hxm
            · exact .inr ⟨x, hx, hxm⟩
      · rw [if_neg c1]
        by_cases c2 : contr P o = c
        · rw [if_pos c2, bestS_min P m r (out ++ [o]) ⟨c, ?_, h2, ?_⟩ hr (by simp) (.inl (by simp))]
          · simp
          · intro x hx
            rcases List.mem_append.1 hx with hx | hx
            · exact h1 x hx
            · rw [List.mem_singleton.1 hx, c2]
          · rcases h3 with h | ⟨x, hx, hxm⟩
            · exact .inl h
            · rcases List.mem_cons.1 hx with rfl | hx
              · exact .inl (by omega)
              · exact .inr ⟨x, hx, hxm⟩
        · rw [if_neg c2, bestS_min P m r out ⟨c, h1, h2, ?_⟩ hr (fun e => absurd e he) (.inl he)]
          · rw [List.filter_append, List.filter_append, List.filter_cons_of_neg (by simp; omega)]
          · rcases h3 with h | ⟨x, hx, hxm⟩
            · exact .inl h
            · rcases List.mem_cons.1 hx with rfl | hx
              · omega
              · exact .inr ⟨x, hx, hxm⟩
end Go.Am.Ring

