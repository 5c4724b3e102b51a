import Derived.Test.YtheppipmnfjdcaaRingC10
import Derived.KernelRfl
/-
  The examples of chapter 04 hold: small calls are run by the kernel, the others are what the contracts tell.
-/
set_option linter.unusedVariables false
set_option linter.unusedSimpArgs false
set_option maxRecDepth 100000
set_option maxHeartbeats 1000000
namespace Go.Am.Ring
open Go.Am.G
theorem run0 : callL LP 3000 n_law04_F [] [] = some (.P, .lst false false 2 5 [.int .i64 0, .int .i64 1, .int .i64 1, .int .i64 2, .int .i64 2, .int .i64 0, .int .i64 2, .int .i64 3, .int .i64 3, .int .i64 1], []) := by kernel_rfl
theorem ran0 (m : LMem) : clF LP n_law04_F [] m = some (.P, .lst false false 2 5 [.int .i64 0, .int .i64 1, .int .i64 1, .int .i64 2, .int .i64 2, .int .i64 0, .int .i64 2, .int .i64 3, .int .i64 3, .int .i64 1], m) := call_ran lp_law04_F rfl rfl run0 m
theorem run1 : callL LP 3000 n_law04_G [] [] = some (.P, .lst false false 2 4 [.int .i64 0, .int .i64 1, .int .i64 1, .int .i64 0, .int .i64 0, .int .i64 1, .int .i64 1, .int .i64 0], []) := by kernel_rfl
theorem ran1 (m : LMem) : clF LP n_law04_G [] m = some (.P, .lst false false 2 4 [.int .i64 0, .int .i64 1, .int .i64 1, .int .i64 0, .int .i64 0, .int .i64 1, .int .i64 1, .int .i64 0], m) := call_ran lp_law04_G rfl rfl run1 m
theorem run2 : callL LP 3000 n_law04_finds [.lst false true 1 2 [.int .i64 0, .int .i64 1]] [] = some (.P, .lst false false 2 1 [.int .i64 0, .int .i64 1], []) := by kernel_rfl
theorem ran2 (m : LMem) : clF LP n_law04_finds [.lst false true 1 2 [.int .i64 0, .int .i64 1]] m = some (.P, .lst false false 2 1 [.int .i64 0, .int .i64 1], m) := call_ran lp_law04_finds rfl rfl run2 m
theorem run3 : callL LP 3000 n_law04_finds [.lst false true 1 10 [.int .i64 0, .int .i64 1, .int .i64 2, .int .i64 0, .int .i64 2, .int .i64 1, .int .i64 2, .int .i64 3, .int .i64 3, .int .i64 1]] [] = some (.P, .lst false false 2 5 [.int .i64 0, .int .i64 1, .int .i64 2, .int .i64 0, .int .i64 2, .int .i64 1, .int .i64 2, .int .i64 3, .int .i64 3, .int .i64 1], []) := by kernel_rfl
theorem ran3 (m : LMem) : clF LP n_law04_finds [.lst false true 1 10 [.int .i64 0, .int .i64 1, .int .i64 2, .int .i64 0, .int .i64 2, .int .i64 1, .int .i64 2, .int .i64 3, .int .i64 3, .int .i64 1]] m = some (.P, .lst false false 2 5 [.int .i64 0, .int .i64 1, .int .i64 2, .int .i64 0, .int .i64 2, .int .i64 1, .int .i64 2, .int .i64 3, .int .i64 3, .int .i64 1], m) := call_ran lp_law04_finds rfl rfl run3 m
theorem run4 : callL LP 3000 n_law04_finds [.lst false true 1 10 [.int .i64 0, .int .i64 1, .int .i64 2, .int .i64 1, .int .i64 2, .int .i64 0, .int .i64 2, .int .i64 3, .int .i64 3, .int .i64 1]] [] = some (.P, .lst false false 2 5 [.int .i64 0, .int .i64 1, .int .i64 2, .int .i64 1, .int .i64 2, .int .i64 0, .int .i64 2, .int .i64 3, .int .i64 3, .int .i64 1], []) := by kernel_rfl
theorem ran4 (m : LMem) : clF LP n_law04_finds [.lst false true 1 10 [.int .i64 0, .int .i64 1, .int .i64 2, .int .i64 1, .int .i64 2, .int .i64 0, .int .i64 2, .int .i64 3, .int .i64 3, .int .i64 1]] m = some (.P, .lst false false 2 5 [.int .i64 0, .int .i64 1, .int .i64 2, .int .i64 1, .int .i64 2, .int .i64 0, .int .i64 2, .int .i64 3, .int .i64 3, .int .i64 1], m) := call_ran lp_law04_finds rfl rfl run4 m
theorem run5 : callL LP 3000 n_ring_Strike [.int .i64 2, .lst false false 2 4 [.int .i64 0, .int .i64 1, .int .i64 1, .int .i64 0, .int .i64 0, .int .i64 1, .int .i64 1, .int .i64 0]] [] = some (.P, .tup [.lst false false 1 2 [.int .i64 0, .int .i64 2], .int .i64 0], []) := by kernel_rfl
theorem ran5 (m : LMem) : clF LP n_ring_Strike [.int .i64 2, .lst false false 2 4 [.int .i64 0, .int .i64 1, .int .i64 1, .int .i64 0, .int .i64 0, .int .i64 1, .int .i64 1, .int .i64 0]] m = some (.P, .tup [.lst false false 1 2 [.int .i64 0, .int .i64 2], .int .i64 0], m) := call_ran lp_ring_Strike rfl rfl run5 m
theorem run6 : callL LP 3000 n_ring_Turn [.int .i64 4, .lst false false 2 5 [.int .i64 0, .int .i64 1, .int .i64 1, .int .i64 2, .int .i64 2, .int .i64 0, .int .i64 2, .int .i64 3, .int .i64 3, .int .i64 1], .lst false true 1 1 [.int .i64 1]] [] = some (.P, .tup [.lst false false 2 5 [.int .i64 0, .int .i64 1, .int .i64 2, .int .i64 1, .int .i64 2, .int .i64 0, .int .i64 2, .int .i64 3, .int .i64 3, .int .i64 1], .int .i64 0], []) := by kernel_rfl
theorem ran6 (m : LMem) : clF LP n_ring_Turn [.int .i64 4, .lst false false 2 5 [.int .i64 0, .int .i64 1, .int .i64 1, .int .i64 2, .int .i64 2, .int .i64 0, .int .i64 2, .int .i64 3, .int .i64 3, .int .i64 1], .lst false true 1 1 [.int .i64 1]] m = some (.P, .tup [.lst false false 2 5 [.int .i64 0, .int .i64 1, .int .i64 2, .int .i64 1, .int .i64 2, .int .i64 0, .int .i64 2, .int .i64 3, .int .i64 3, .int .i64 1], .int .i64 0], m) := call_ran lp_ring_Turn rfl rfl run6 m
theorem run7 : callL LP 3000 n_ring_Ring [.int .i64 4, .lst false false 2 5 [.int .i64 0, .int .i64 1, .int .i64 1, .int .i64 2, .int .i64 2, .int .i64 0, .int .i64 2, .int .i64 3, .int .i64 3, .int .i64 1]] [] = some (.P, .tup [.lst false false 1 3 [.int .i64 0, .int .i64 1, .int .i64 2], .int .i64 0], []) := by kernel_rfl
theorem ran7 (m : LMem) : clF LP n_ring_Ring [.int .i64 4, .lst false false 2 5 [.int .i64 0, .int .i64 1, .int .i64 1, .int .i64 2, .int .i64 2, .int .i64 0, .int .i64 2, .int .i64 3, .int .i64 3, .int .i64 1]] m = some (.P, .tup [.lst false false 1 3 [.int .i64 0, .int .i64 1, .int .i64 2], .int .i64 0], m) := call_ran lp_ring_Ring rfl rfl run7 m
theorem run8 : callL LP 3000 n_ring_Apart [.int .i64 2, .lst false false 2 4 [.int .i64 0, .int .i64 1, .int .i64 1, .int .i64 0, .int .i64 0, .int .i64 1, .int .i64 1, .int .i64 0]] [] = some (.P, .tup [.lst false false 1 2 [.lst false false 1 2 [.int .i64 0, .int .i64 1], .lst false false 1 2 [.int .i64 2, .int .i64 3]], .int .i64 0], []) := by kernel_rfl
theorem ran8 (m : LMem) : clF LP n_ring_Apart [.int .i64 2, .lst false false 2 4 [.int .i64 0, .int .i64 1, .int .i64 1, .int .i64 0, .int .i64 0, .int .i64 1, .int .i64 1, .int .i64 0]] m = some (.P, .tup [.lst false false 1 2 [.lst false false 1 2 [.int .i64 0, .int .i64 1], .lst false false 1 2 [.int .i64 2, .int .i64 3]], .int .i64 0], m) := call_ran lp_ring_Apart rfl rfl run8 m
theorem run9 : callL LP 3000 n_ring_Ring [.int .i64 3, .lst false false 2 1 [.int .i64 0, .int .i64 1]] [] = some (.P, .tup [.lst true true 0 0 [], .int .i64 13], []) := by kernel_rfl
theorem ran9 (m : LMem) : clF LP n_ring_Ring [.int .i64 3, .lst false false 2 1 [.int .i64 0, .int .i64 1]] m = some (.P, .tup [.lst true true 0 0 [], .int .i64 13], m) := call_ran lp_ring_Ring rfl rfl run9 m
theorem run10 : callL LP 3000 n_ring_Proves [.int .i64 4, .lst false false 2 5 [.int .i64 0, .int .i64 1, .int .i64 1, .int .i64 2, .int .i64 2, .int .i64 0, .int .i64 2, .int .i64 3, .int .i64 3, .int .i64 1], .lst false true 1 3 [.int .i64 1, .int .i64 3, .int .i64 4]] [] = some (.P, .int .i64 0, []) := by kernel_rfl
theorem ran10 (m : LMem) : clF LP n_ring_Proves [.int .i64 4, .lst false false 2 5 [.int .i64 0, .int .i64 1, .int .i64 1, .int .i64 2, .int .i64 2, .int .i64 0, .int .i64 2, .int .i64 3, .int .i64 3, .int .i64 1], .lst false true 1 3 [.int .i64 1, .int .i64 3, .int .i64 4]] m = some (.P, .int .i64 0, m) := call_ran lp_ring_Proves rfl rfl run10 m
theorem run11 : callL LP 3000 n_ring_Proves [.int .i64 4, .lst false false 2 5 [.int .i64 0, .int .i64 1, .int .i64 1, .int .i64 2, .int .i64 2, .int .i64 0, .int .i64 2, .int .i64 3, .int .i64 3, .int .i64 1], .lst false true 1 3 [.int .i64 3, .int .i64 4, .int .i64 1]] [] = some (.P, .int .i64 14, []) := by kernel_rfl
theorem ran11 (m : LMem) : clF LP n_ring_Proves [.int .i64 4, .lst false false 2 5 [.int .i64 0, .int .i64 1, .int .i64 1, .int .i64 2, .int .i64 2, .int .i64 0, .int .i64 2, .int .i64 3, .int .i64 3, .int .i64 1], .lst false true 1 3 [.int .i64 3, .int .i64 4, .int .i64 1]] m = some (.P, .int .i64 14, m) := call_ran lp_ring_Proves rfl rfl run11 m
theorem run12 : callL LP 3000 n_law04_lists [.lst false false 1 2 [.lst false false 1 2 [.int .i64 0, .int .i64 1], .lst false false 1 2 [.int .i64 2, .int .i64 3]], .lst false true 1 2 [.lst false true 1 2 [.int .i64 0, .int .i64 1], .lst false true 1 2 [.int .i64 2, .int .i64 3]]] [] = some (.P, .bool true, []) := by kernel_rfl
theorem ran12 (m : LMem) : clF LP n_law04_lists [.lst false false 1 2 [.lst false false 1 2 [.int .i64 0, .int .i64 1], .lst false false 1 2 [.int .i64 2, .int .i64 3]], .lst false true 1 2 [.lst false true 1 2 [.int .i64 0, .int .i64 1], .lst false true 1 2 [.int .i64 2, .int .i64 3]]] m = some (.P, .bool true, m) := call_ran lp_law04_lists rfl rfl run12 m
theorem list_c (v : LV) (hv : v.pure = true) (m : LMem) : clF LP n_law04_list [v] m = some (.P, v, m) := by
  refine call_P lp_law04_list rfl (by simp [LV.pures, hv]) (m1 := []) ?_ hv m
  simp only [law04_list, law04_list.B, beqT, beqF, exF_seq, exF_region, exF_block, exF_cond, exF_ret, exF_exit, exF_skip, runL, wantL, stepL, evL, evC, LEnv.at, putL, loadFine, loadL, cellsAt, Trk.putNew, Trk.up, Trk.touch, Trk.gives, Trk.calm, Trk.hit, opdsOf, Trk.fresh, LEnv.keep, LEnv.ofFrom, List.map_cons, List.map_nil, nbeq, nble, nblt, ofAV, ofAVs, lenL, bin_add, bin_sub, bin_mul, bin_eql, bin_neq, bin_lss, bin_leq, bin_gtr, bin_geq, natL_nat, natL_zero, natL_one, natL_two, Nat.zero_mul, List.any_cons, List.any_nil, Bool.or_false, Bool.false_or, Bool.true_or, Bool.or_true, Bool.and_true, Bool.true_and, Bool.and_false, Bool.false_and, Bool.not_true, Bool.not_false, Nat.reduceBEq, Nat.reduceEqDiff, decide_true, decide_false, cond_true, cond_false, List.filter_nil, List.filter_cons, Nat.reduceAdd, Nat.reduceLeDiff, reduceCtorEq, List.length_nil, List.length_cons, Nat.mul_one, if_true, if_false, Bool.false_eq_true, eq_self, and_true, true_and, retL, resultsL, resAllL, resOfL, List.append_nil, List.nil_append, List.cons_append, true_or, or_true, false_or, or_false, false_and, and_false, not_true_eq_false, not_false_eq_true, ne_eq, unL, trim_nil, views_pures, LV.pures, LV.pure, freeze, Nat.reduceDiv, Int.reduceEq, Int.reduceLT, Int.reduceLE, Int.natCast_zero, LV.cells, allocL, List.getElem?_cons_zero, List.getElem?_cons_succ, storeL, spliceL, List.take_zero, List.take_succ_cons, List.drop_zero, List.drop_succ_cons, List.drop_nil, List.take_nil, Nat.le_refl, Nat.reduceMul, List.set_cons_zero, List.set_cons_succ, LV.scalar, List.all_cons, List.all_nil, Nat.lt_add_one, Nat.zero_lt_one, Nat.reduceLT, Nat.lt_irrefl, fillL, List.length_append, foldIntL, kind_beq, pures_int, solids_int, plains_int, unders_int, scalars_int]
def PF : List (Nat × Nat) := [(0, 1), (1, 2), (2, 0), (2, 3), (3, 1)]
def PG : List (Nat × Nat) := [(0, 1), (1, 0), (0, 1), (1, 0)]
theorem GF : Good 4 PF := ⟨by decide, by decide, by decide, by decide, by decide⟩
theorem GG : Good 2 PG := ⟨by decide, by decide, by decide, by decide, by decide⟩
theorem fwF : fwD anyM PF 4 0 = (1, 2) := by kernel_rfl
theorem fwG : fwD anyM PG 2 0 = (2, 2) := by kernel_rfl
theorem greF : gre PF 4 4 0 = [2, 0, 3, 1] := by kernel_rfl
theorem sureF : sureS 4 PF = [(0, 1), (2, 0), (2, 1), (2, 3), (3, 1)] := by kernel_rfl
theorem w0 (m : LMem) : clF LP n_ring_Against [.int .i64 4, .lst false false 2 5 [.int .i64 0, .int .i64 1, .int .i64 1, .int .i64 2, .int .i64 2, .int .i64 0, .int .i64 2, .int .i64 3, .int .i64 3, .int .i64 1], .lst false true 1 4 [.int .i64 0, .int .i64 1, .int .i64 2, .int .i64 3]] m = some (.P, .tup [.lst false false 1 2 [.int .i64 2, .int .i64 4], .int .i64 0], m) := agnP_c false false false true 2 1 4 (PF.map castP) [0, 1, 2, 3] (by decide) (by decide) m
theorem w1 (m : LMem) : clF LP n_ring_Fewest [.int .i64 2, .lst false false 2 4 [.int .i64 0, .int .i64 1, .int .i64 1, .int .i64 0, .int .i64 0, .int .i64 1, .int .i64 1, .int .i64 0]] m = some (.P, .tup [.int .i64 2, .int .i64 0], m) := by
  have h := fewest_c 2 PG GG false false 2 m
  rw [fwG] at h
  exact h
theorem w2 (m : LMem) : clF LP n_ring_Order [.int .i64 4, .lst false false 2 5 [.int .i64 0, .int .i64 1, .int .i64 1, .int .i64 2, .int .i64 2, .int .i64 0, .int .i64 2, .int .i64 3, .int .i64 3, .int .i64 1]] m = some (.P, .tup [.lst false false 1 4 [.int .i64 2, .int .i64 0, .int .i64 3, .int .i64 1], .int .i64 0], m) := by
  have h := order_c 4 PF GF false false 2 m
  rw [greF] at h
  exact h
theorem w3 (m : LMem) : clF LP n_ring_Count [.int .i64 4, .lst false false 2 5 [.int .i64 0, .int .i64 1, .int .i64 1, .int .i64 2, .int .i64 2, .int .i64 0, .int .i64 2, .int .i64 3, .int .i64 3, .int .i64 1]] m = some (.P, .tup [.int .i64 2, .int .i64 0], m) := by
  have h := count_c 4 PF GF false false 2 m
  rw [fwF] at h
  exact h
theorem w4 : ∃ a b z, ∀ m, clF LP n_ring_Sure [.int .i64 4, .lst false false 2 5 [.int .i64 0, .int .i64 1, .int .i64 1, .int .i64 2, .int .i64 2, .int .i64 0, .int .i64 2, .int .i64 3, .int .i64 3, .int .i64 1]] m = some (.P, .tup [.lst a b z 5 [.int .i64 0, .int .i64 1, .int .i64 2, .int .i64 0, .int .i64 2, .int .i64 1, .int .i64 2, .int .i64 3, .int .i64 3, .int .i64 1], .int .i64 0], m) := by
  obtain ⟨a, b, z, h⟩ := sure_c 4 PF GF false false 2
  rw [sureF] at h
  exact ⟨a, b, z, h⟩
theorem l0 (m : LMem) : clF LP n_law04_list [.lst false true 1 4 [.int .i64 0, .int .i64 1, .int .i64 2, .int .i64 3]] m = some (.P, .lst false true 1 4 [.int .i64 0, .int .i64 1, .int .i64 2, .int .i64 3], m) := list_c _ rfl m
theorem l1 (m : LMem) : clF LP n_law04_list [.lst false true 1 1 [.int .i64 1]] m = some (.P, .lst false true 1 1 [.int .i64 1], m) := list_c _ rfl m
theorem l2 (m : LMem) : clF LP n_law04_list [.lst false true 1 2 [.int .i64 2, .int .i64 4]] m = some (.P, .lst false true 1 2 [.int .i64 2, .int .i64 4], m) := list_c _ rfl m
theorem l3 (m : LMem) : clF LP n_law04_list [.lst false true 1 4 [.int .i64 2, .int .i64 0, .int .i64 3, .int .i64 1]] m = some (.P, .lst false true 1 4 [.int .i64 2, .int .i64 0, .int .i64 3, .int .i64 1], m) := list_c _ rfl m
theorem l4 (m : LMem) : clF LP n_law04_list [.lst false true 1 2 [.int .i64 0, .int .i64 2]] m = some (.P, .lst false true 1 2 [.int .i64 0, .int .i64 2], m) := list_c _ rfl m
theorem l5 (m : LMem) : clF LP n_law04_list [.lst false true 1 3 [.int .i64 0, .int .i64 1, .int .i64 2]] m = some (.P, .lst false true 1 3 [.int .i64 0, .int .i64 1, .int .i64 2], m) := list_c _ rfl m
theorem l6 (m : LMem) : clF LP n_law04_list [.lst false true 1 3 [.int .i64 1, .int .i64 3, .int .i64 4]] m = some (.P, .lst false true 1 3 [.int .i64 1, .int .i64 3, .int .i64 4], m) := list_c _ rfl m
theorem l7 (m : LMem) : clF LP n_law04_list [.lst false true 1 3 [.int .i64 3, .int .i64 4, .int .i64 1]] m = some (.P, .lst false true 1 3 [.int .i64 3, .int .i64 4, .int .i64 1], m) := list_c _ rfl m
theorem s0 (m : LMem) : clF LP n_law04_same [.lst false false 1 2 [.int .i64 2, .int .i64 4], .lst false true 1 2 [.int .i64 2, .int .i64 4]] m = some (.P, .bool true, m) := same_c false false false true 1 1 [2, 4] [2, 4] (by decide) (by decide) m
theorem s1 (m : LMem) : clF LP n_law04_same [.lst false false 1 4 [.int .i64 2, .int .i64 0, .int .i64 3, .int .i64 1], .lst false true 1 4 [.int .i64 2, .int .i64 0, .int .i64 3, .int .i64 1]] m = some (.P, .bool true, m) := same_c false false false true 1 1 [2, 0, 3, 1] [2, 0, 3, 1] (by decide) (by decide) m
theorem s2 (m : LMem) : clF LP n_law04_same [.lst false false 1 2 [.int .i64 0, .int .i64 2], .lst false true 1 2 [.int .i64 0, .int .i64 2]] m = some (.P, .bool true, m) := same_c false false false true 1 1 [0, 2] [0, 2] (by decide) (by decide) m
theorem s3 (m : LMem) : clF LP n_law04_same [.lst false false 1 3 [.int .i64 0, .int .i64 1, .int .i64 2], .lst false true 1 3 [.int .i64 0, .int .i64 1, .int .i64 2]] m = some (.P, .bool true, m) := same_c false false false true 1 1 [0, 1, 2] [0, 1, 2] (by decide) (by decide) m
theorem p0 (m : LMem) : clF LP n_law04_pairs [.lst false false 2 5 [.int .i64 0, .int .i64 1, .int .i64 2, .int .i64 1, .int .i64 2, .int .i64 0, .int .i64 2, .int .i64 3, .int .i64 3, .int .i64 1], .lst false false 2 5 [.int .i64 0, .int .i64 1, .int .i64 2, .int .i64 1, .int .i64 2, .int .i64 0, .int .i64 2, .int .i64 3, .int .i64 3, .int .i64 1]] m = some (.P, .bool true, m) := pairs_c false false false false 2 2 [(0, 1), (2, 1), (2, 0), (2, 3), (3, 1)] [(0, 1), (2, 1), (2, 0), (2, 3), (3, 1)] (by decide) (by decide) m
theorem works_c (m : LMem) : clF LP n_law04_works [] m = some (.P, .bool true, m) := by
  obtain ⟨a, b, z, hs⟩ := w4
  have hp : ∀ m, clF LP n_law04_pairs [.lst a b z 5 [.int .i64 0, .int .i64 1, .int .i64 2, .int .i64 0, .int .i64 2, .int .i64 1, .int .i64 2, .int .i64 3, .int .i64 3, .int .i64 1], .lst false false 2 5 [.int .i64 0, .int .i64 1, .int .i64 2, .int .i64 0, .int .i64 2, .int .i64 1, .int .i64 2, .int .i64 3, .int .i64 3, .int .i64 1]] m = some (.P, .bool true, m) := fun m => pairs_c a b false false z 2 [(0, 1), (2, 0), (2, 1), (2, 3), (3, 1)] [(0, 1), (2, 0), (2, 1), (2, 3), (3, 1)] (by decide) (by decide) m
  refine call_P lp_law04_works rfl rfl (m1 := []) ?_ rfl m
  simp only [law04_works, law04_works.B, law04_works.B.R0, law04_works.B.R1, law04_works.B.R2, law04_works.B.R3]
  repeat (rw [exF_seq]; try simp only [beqT, beqF, exF_region, exF_block, exF_cond, exF_ret, exF_exit, exF_skip, runL, wantL, stepL, evL, evC, LEnv.at, putL, loadFine, loadL, cellsAt, Trk.putNew, Trk.up, Trk.touch, Trk.gives, Trk.calm, Trk.hit, opdsOf, Trk.fresh, LEnv.keep, LEnv.ofFrom, List.map_cons, List.map_nil, nbeq, nble, nblt, ofAV, ofAVs, lenL, bin_add, bin_sub, bin_mul, bin_eql, bin_neq, bin_lss, bin_leq, bin_gtr, bin_geq, natL_nat, natL_zero, natL_one, natL_two, Nat.zero_mul, List.any_cons, List.any_nil, Bool.or_false, Bool.false_or, Bool.true_or, Bool.or_true, Bool.and_true, Bool.true_and, Bool.and_false, Bool.false_and, Bool.not_true, Bool.not_false, Nat.reduceBEq, Nat.reduceEqDiff, decide_true, decide_false, cond_true, cond_false, List.filter_nil, List.filter_cons, Nat.reduceAdd, Nat.reduceLeDiff, reduceCtorEq, List.length_nil, List.length_cons, Nat.mul_one, if_true, if_false, Bool.false_eq_true, eq_self, and_true, true_and, retL, resultsL, resAllL, resOfL, List.append_nil, List.nil_append, List.cons_append, true_or, or_true, false_or, or_false, false_and, and_false, not_true_eq_false, not_false_eq_true, ne_eq, unL, trim_nil, views_pures, LV.pures, LV.pure, freeze, Nat.reduceDiv, Int.reduceEq, Int.reduceLT, Int.reduceLE, Int.natCast_zero, LV.cells, allocL, List.getElem?_cons_zero, List.getElem?_cons_succ, storeL, spliceL, List.take_zero, List.take_succ_cons, List.drop_zero, List.drop_succ_cons, List.drop_nil, List.take_nil, Nat.le_refl, Nat.reduceMul, List.set_cons_zero, List.set_cons_succ, LV.scalar, List.all_cons, List.all_nil, Nat.lt_add_one, Nat.zero_lt_one, Nat.reduceLT, Nat.lt_irrefl, fillL, List.length_append, foldIntL, kind_beq, pures_int, solids_int, plains_int, unders_int, scalars_int, ran0, ran1, ran2, ran3, ran4, ran5, ran6, ran7, ran8, ran9, ran10, ran11, ran12, l0, l1, l2, l3, l4, l5, l6, l7, w0, w1, w2, w3, hs, hp, s0, s1, s2, s3, p0])
end Go.Am.Ring

/-
  What functions of chapter 04 compute, 13: what is sure, as the reference says; it is the same.
-/
set_option linter.unusedVariables false
set_option linter.unusedSimpArgs false
set_option maxRecDepth 10000
namespace Go.Am.Ring
open Go.Am.G

end Go.Am.Ring


