/-
  What functions of chapter 04 compute, 12: the law RingOrders.
-/
import Derived.Test.YtheppipmnfjdcaaRingWorks
import Derived.Test.YtheppipmnfjdcaaLaw2
set_option linter.unusedVariables false
set_option linter.unusedSimpArgs false
set_option maxRecDepth 10000
namespace Go.Am.Ring
open Go.Am.G

theorem pcI_flat : ∀ (l : List (Int × Int)), pcI l = (flatP l).map (LV.int .i64)
  | [] => rfl
  | a :: r => by
    have e1 : pcI (a :: r) = .int .i64 a.1 :: .int .i64 a.2 :: pcI r := rfl
    have e2 : flatP (a :: r) = a.1 :: a.2 :: flatP r := rfl
    rw [e1, e2, pcI_flat r]; rfl
theorem same_self (l : List Int) (h : l.length < 1000000) (m : LMem) : clF LP n_law04_same [RL l, RL l] m = some (.P, .bool true, m) := by
  have := same_c (decide (l = [])) (decide (l = [])) (decide (l = [])) (decide (l = [])) (cond (decide (l = [])) 0 1) (cond (decide (l = [])) 0 1) l l h h m
  rw [this]; simp
theorem fewest_both (N : Int) (l : List (Int × Int)) (hl : l.length < 1000000) (nl ex : Bool) (sz : Nat) : ∃ x e, (∀ m, clF LP n_ring_Fewest [.int .i64 N, FL nl ex sz l] m = some (.P, .tup [.int .i64 x, .int .i64 e], m)) ∧ (∀ m, clF LP n_ref04_Fewest [.int .i64 N, FL nl ex sz l] m = some (.P, .tup [.int .i64 x, .int .i64 e], m)) := by
  by_cases h : chkF N l = 0
  · obtain ⟨n, P, rfl, rfl, G⟩ := good_of h
    exact ⟨_, _, fun m => fewest_c n P G nl ex sz m, fun m => fewestR_c n P G nl ex sz m⟩
  · exact ⟨_, _, fun m => fewest_e N l hl h nl ex sz m, fun m => fewestR_e N l hl h nl ex sz m⟩
theorem count_both (N : Int) (l : List (Int × Int)) (hl : l.length < 1000000) (nl ex : Bool) (sz : Nat) : ∃ x e, (∀ m, clF LP n_ring_Count [.int .i64 N, FL nl ex sz l] m = some (.P, .tup [.int .i64 x, .int .i64 e], m)) ∧ (∀ m, clF LP n_ref04_Count [.int .i64 N, FL nl ex sz l] m = some (.P, .tup [.int .i64 x, .int .i64 e], m)) := by
  by_cases h : chkF N l = 0
  · obtain ⟨n, P, rfl, rfl, G⟩ := good_of h
    exact ⟨_, _, fun m => count_c n P G nl ex sz m, fun m => countR_c n P G nl ex sz m⟩
  · exact ⟨_, _, fun m => count_e N l hl h nl ex sz m, fun m => countR_e N l hl h nl ex sz m⟩
theorem order_both (N : Int) (l : List (Int × Int)) (hl : l.length < 1000000) (nl ex : Bool) (sz : Nat) : ∃ o e, o.length < 1000000 ∧ (∀ m, clF LP n_ring_Order [.int .i64 N, FL nl ex sz l] m = some (.P, .tup [RL o, .int .i64 e], m)) ∧ (∀ m, clF LP n_ref04_Order [.int .i64 N, FL nl ex sz l] m = some (.P, .tup [RL o, .int .i64 e], m)) := by
  by_cases h : chkF N l = 0
  · obtain ⟨n, P, rfl, rfl, G⟩ := good_of h
    have h1 := (ords_ok (gre_len G)).2.1
    have hne : ci (gre P n n 0) ≠ [] := by
      intro c
      have := congrArg List.length c
      rw [ci_len, h1] at this
      have := G.pos
      simp at *; omega
    refine ⟨ci (gre P n n 0), 0, by rw [ci_len, h1]; have := G.le6; omega, fun m => order_c n P G nl ex sz m, fun m => ?_⟩
    rw [RL_ne hne]
    exact orderR_c n P G nl ex sz m
  · exact ⟨[], _, by simp, fun m => order_e N l hl h nl ex sz m, fun m => orderR_e N l hl h nl ex sz m⟩
theorem againstV_len (N : Int) (l : List (Int × Int)) (o : List Int) (h : l.length < 1000) : (againstV N l o).1.length < 1000000 := by
  have := agnF_len o l 0
  unfold againstV
  split
  · split
    · split
      · simp only [agn]; omega
      · simp
    · simp
  · simp
theorem orders_law (N : Int) (nl nl' : Bool) (l : List (Int × Int)) (o : List Int) : clF LP n_law04_RingOrders [.int .i64 N, FL nl false 2 l, IL nl' false 1 o] [] = some (.P, .bool true, []) := by
  refine call_P lp_law04_RingOrders rfl (by simp [LV.pures, LV.pure, pcI_pures]) (m1 := []) ?_ rfl []
  by_cases h1 : 40 < l.length
  · have h1' : (40 : Int) < (l.length : Int) := by omega
    simp only [law04_RingOrders, law04_RingOrders.B, law04_RingOrders.B.R0]
    repeat (rw [exF_seq]; try simp only [beqT, beqF, exF_region, exF_block, exF_cond, exF_ret, exF_exit, exF_skip, runL, wantL, stepL, evL, evC, LEnv.at, putL, loadFine, loadL, cellsAt, Trk.putNew, Trk.up, Trk.touch, Trk.gives, Trk.calm, Trk.hit, opdsOf, Trk.fresh, LEnv.keep, LEnv.ofFrom, List.map_cons, List.map_nil, nbeq, nble, nblt, ofAV, ofAVs, lenL, bin_add, bin_sub, bin_mul, bin_eql, bin_neq, bin_lss, bin_leq, bin_gtr, bin_geq, natL_nat, natL_zero, natL_one, natL_two, Nat.zero_mul, List.any_cons, List.any_nil, Bool.or_false, Bool.false_or, Bool.true_or, Bool.or_true, Bool.and_true, Bool.true_and, Bool.and_false, Bool.false_and, Bool.not_true, Bool.not_false, Nat.reduceBEq, Nat.reduceEqDiff, decide_true, decide_false, cond_true, cond_false, List.filter_nil, List.filter_cons, Nat.reduceAdd, Nat.reduceLeDiff, reduceCtorEq, List.length_nil, List.length_cons, Nat.mul_one, if_true, if_false, Bool.false_eq_true, eq_self, and_true, true_and, retL, resultsL, resAllL, resOfL, List.append_nil, List.nil_append, List.cons_append, true_or, or_true, false_or, or_false, false_and, and_false, not_true_eq_false, not_false_eq_true, ne_eq, unL, trim_nil, views_pures, LV.pures, LV.pure, freeze, Nat.reduceDiv, Int.reduceEq, Int.reduceLT, Int.reduceLE, Int.natCast_zero, LV.cells, allocL, List.getElem?_cons_zero, List.getElem?_cons_succ, storeL, spliceL, List.take_zero, List.take_succ_cons, List.drop_zero, List.drop_succ_cons, List.drop_nil, List.take_nil, Nat.le_refl, Nat.reduceMul, List.set_cons_zero, List.set_cons_succ, LV.scalar, List.all_cons, List.all_nil, Nat.lt_add_one, Nat.zero_lt_one, Nat.reduceLT, Nat.lt_irrefl, fillL, List.length_append, foldIntL, kind_beq, pures_int, solids_int, plains_int, unders_int, scalars_int, h1', works_c])
  · have h1' : ¬ (40 : Int) < (l.length : Int) := by omega
    by_cases h2 : 40 < o.length
    · have h2' : (40 : Int) < (o.length : Int) := by omega
      simp only [law04_RingOrders, law04_RingOrders.B, law04_RingOrders.B.R0]
      repeat (rw [exF_seq]; try simp only [beqT, beqF, exF_region, exF_block, exF_cond, exF_ret, exF_exit, exF_skip, runL, wantL, stepL, evL, evC, LEnv.at, putL, loadFine, loadL, cellsAt, Trk.putNew, Trk.up, Trk.touch, Trk.gives, Trk.calm, Trk.hit, opdsOf, Trk.fresh, LEnv.keep, LEnv.ofFrom, List.map_cons, List.map_nil, nbeq, nble, nblt, ofAV, ofAVs, lenL, bin_add, bin_sub, bin_mul, bin_eql, bin_neq, bin_lss, bin_leq, bin_gtr, bin_geq, natL_nat, natL_zero, natL_one, natL_two, Nat.zero_mul, List.any_cons, List.any_nil, Bool.or_false, Bool.false_or, Bool.true_or, Bool.or_true, Bool.and_true, Bool.true_and, Bool.and_false, Bool.false_and, Bool.not_true, Bool.not_false, Nat.reduceBEq, Nat.reduceEqDiff, decide_true, decide_false, cond_true, cond_false, List.filter_nil, List.filter_cons, Nat.reduceAdd, Nat.reduceLeDiff, reduceCtorEq, List.length_nil, List.length_cons, Nat.mul_one, if_true, if_false, Bool.false_eq_true, eq_self, and_true, true_and, retL, resultsL, resAllL, resOfL, List.append_nil, List.nil_append, List.cons_append, true_or, or_true, false_or, or_false, false_and, and_false, not_true_eq_false, not_false_eq_true, ne_eq, unL, trim_nil, views_pures, LV.pures, LV.pure, freeze, Nat.reduceDiv, Int.reduceEq, Int.reduceLT, Int.reduceLE, Int.natCast_zero, LV.cells, allocL, List.getElem?_cons_zero, List.getElem?_cons_succ, storeL, spliceL, List.take_zero, List.take_succ_cons, List.drop_zero, List.drop_succ_cons, List.drop_nil, List.take_nil, Nat.le_refl, Nat.reduceMul, List.set_cons_zero, List.set_cons_succ, LV.scalar, List.all_cons, List.all_nil, Nat.lt_add_one, Nat.zero_lt_one, Nat.reduceLT, Nat.lt_irrefl, fillL, List.length_append, foldIntL, kind_beq, pures_int, solids_int, plains_int, unders_int, scalars_int, h1', h2', works_c])
    · have h2' : ¬ (40 : Int) < (o.length : Int) := by omega
      have a1 := fun m => agnP_c nl false nl' false 2 1 N l o (by omega) (by omega) m
      have a2 := fun m => agnR_c nl false nl' false 2 N l o (by omega) (by omega) m
      have a3 := fun m => same_self (againstV N l o).1 (againstV_len N l o (by omega)) m
      obtain ⟨x, e, f1, f2⟩ := fewest_both N l (by omega) nl false 2
      obtain ⟨y, g, c1, c2⟩ := count_both N l (by omega) nl false 2
      obtain ⟨w, d, hw, o1, o2⟩ := order_both N l (by omega) nl false 2
      have o3 := fun m => same_self w hw m
      have k1 := fun m => check_c nl false 2 N l (by omega) m
      have k2 := fun m => checkR_c nl false 2 N l (by omega) m
      generalize (againstV N l o).1 = A1 at *
      generalize (againstV N l o).2 = A2 at *
      generalize RL A1 = Z1 at *
      generalize RL w = Z2 at *
      generalize chkF N l = ck at *
      simp only [law04_RingOrders, law04_RingOrders.B, law04_RingOrders.B.R0, law04_RingOrders.B.R1, law04_RingOrders.B.R2, law04_RingOrders.B.R3, law04_RingOrders.B.R4, law04_RingOrders.B.R5, law04_RingOrders.B.R6, law04_RingOrders.B.R7, law04_RingOrders.B.R8, law04_RingOrders.B.R9, law04_RingOrders.B.R10]
      repeat (rw [exF_seq]; try simp only [beqT, beqF, exF_region, exF_block, exF_cond, exF_ret, exF_exit, exF_skip, runL, wantL, stepL, evL, evC, LEnv.at, putL, loadFine, loadL, cellsAt, Trk.putNew, Trk.up, Trk.touch, Trk.gives, Trk.calm, Trk.hit, opdsOf, Trk.fresh, LEnv.keep, LEnv.ofFrom, List.map_cons, List.map_nil, nbeq, nble, nblt, ofAV, ofAVs, lenL, bin_add, bin_sub, bin_mul, bin_eql, bin_neq, bin_lss, bin_leq, bin_gtr, bin_geq, natL_nat, natL_zero, natL_one, natL_two, Nat.zero_mul, List.any_cons, List.any_nil, Bool.or_false, Bool.false_or, Bool.true_or, Bool.or_true, Bool.and_true, Bool.true_and, Bool.and_false, Bool.false_and, Bool.not_true, Bool.not_false, Nat.reduceBEq, Nat.reduceEqDiff, decide_true, decide_false, cond_true, cond_false, List.filter_nil, List.filter_cons, Nat.reduceAdd, Nat.reduceLeDiff, reduceCtorEq, List.length_nil, List.length_cons, Nat.mul_one, if_true, if_false, Bool.false_eq_true, eq_self, and_true, true_and, retL, resultsL, resAllL, resOfL, List.append_nil, List.nil_append, List.cons_append, true_or, or_true, false_or, or_false, false_and, and_false, not_true_eq_false, not_false_eq_true, ne_eq, unL, trim_nil, views_pures, LV.pures, LV.pure, freeze, Nat.reduceDiv, Int.reduceEq, Int.reduceLT, Int.reduceLE, Int.natCast_zero, LV.cells, allocL, List.getElem?_cons_zero, List.getElem?_cons_succ, storeL, spliceL, List.take_zero, List.take_succ_cons, List.drop_zero, List.drop_succ_cons, List.drop_nil, List.take_nil, Nat.le_refl, Nat.reduceMul, List.set_cons_zero, List.set_cons_succ, LV.scalar, List.all_cons, List.all_nil, Nat.lt_add_one, Nat.zero_lt_one, Nat.reduceLT, Nat.lt_irrefl, fillL, List.length_append, foldIntL, kind_beq, pures_int, solids_int, plains_int, unders_int, scalars_int, h1', h2', a1, a2, a3, f1, f2, c1, c2, o1, o2, o3, k1, k2, works_c])
theorem orders_in (N : Int) (nl : Bool) (l : List (Int × Int)) (_ : nl = true → l = []) (nl' : Bool) (o : List Int) (_ : nl' = true → o = []) :
    clF LP n_law04_RingOrders [.int .i64 N, .lst nl false 2 l.length ((flatP l).map (LV.int .i64)), IL nl' false 1 o] [] = some (.P, .bool true, []) := by
  rw [← pcI_flat]
  exact orders_law N nl nl' l o
end Go.Am.Ring

