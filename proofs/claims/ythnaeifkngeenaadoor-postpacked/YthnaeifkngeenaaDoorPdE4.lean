import Derived.Test.YthnaeifkngeenaaDoorPdE3
import Derived.Test.YthnaeifkngeenaaDoorPdC15
/-
  What functions of chapter 12 compute, by tables 4: the law 'PostPacked'.
-/
set_option linter.unusedVariables false
set_option linter.unusedSimpArgs false
set_option maxRecDepth 10000
set_option maxHeartbeats 2000000
namespace Go.Am.Post
open Go.Am.G

/-! ### Lists that functions hand back -/
def RV (l : List Nat) : LV := RLn l
theorem RV_nil : RV [] = .lst true true 0 0 [] := rfl
theorem RV_len (l : List Nat) : lenL (RV l) = some l.length := by simp [RV, lenL]
theorem memb_v {x : Nat} (hx : x < 1024) (m : LMem) : clF LP n_law12_members [.int .u64 (x : Int)] m = some (.P, RV (memL x), m) := memb_c hx m
theorem compare_v {a b : List Nat} (ha : a.length ≤ 10) (hb : b.length ≤ 10) (m : LMem) : clF LP n_slices_Compare_int_int [RV a, RV b] m = some (.P, .int .i64 (lexI (ci a) (ci b)), m) :=
  compare_c _ _ _ _ _ _ (ci a) (ci b) (by simp; omega) (by simp; omega) m
theorem smaller_v {a b : List Nat} (ha : a.length ≤ 10) (hb : b.length ≤ 10) (t : Bool) (m : LMem) : clF LP n_law12_smaller [RV a, RV b, .bool t] m = some (.P, .bool (smV (ci a) (ci b) t), m) :=
  smaller_c _ _ _ _ _ _ (ci a) (ci b) t (by simp; omega) (by simp; omega) m
theorem same_v {a : List Nat} (ha : a.length ≤ 10) (m : LMem) : clF LP n_law12_same [RV a, RV a] m = some (.P, .bool true, m) :=
  same_refl _ _ _ _ _ _ (ci a) (by simp; omega) m
section
variable (b : Bool) {s : List Int} (K : OkS s) (m : LMem)
include K
theorem few_v : clF LP n_post_Fewest [IL false b 1 s] m = some (.P, .tup [RV (firstS s (fun _ => 1)), .int .i64 0], m) := by
  have h := fewestP_c false b 1 s (by have := K.le; omega) m
  rw [fewV, K.chk, if_pos rfl] at h
  exact h
theorem apt_v : clF LP n_post_Apart [IL false b 1 s] m = some (.P, .tup [RV (grM (hd s) s.length 0 0), .int .i64 0], m) := by
  have h := apartP_c false b 1 s (by have := K.le; omega) m
  rw [aptV, K.chk, if_pos rfl] at h
  exact h
theorem guards_v {q : List Nat} (hq : q ∈ asc 0 s.length) : clF LP n_post_Guards [IL false b 1 s, RV q] m = some (.P, .int .i64 (guardV s q), m) := by
  have h := guardsP_c false b (decide (ci q = [])) (decide (ci q = [])) 1 (cond (decide (ci q = [])) 0 1) s (ci q) (by have := K.le; omega) (by have := asc_len hq; have := K.le; simp; omega) m
  rw [listV_of K hq, if_neg (by simp), ci_nat] at h
  exact h
theorem proves_v {q : List Nat} (hq : q ∈ asc 0 s.length) : clF LP n_post_Proves [IL false b 1 s, RV q] m = some (.P, .int .i64 (provesV s q), m) := by
  have h := provesP_c false b (decide (ci q = [])) (decide (ci q = [])) 1 (cond (decide (ci q = [])) 0 1) s (ci q) (by have := K.le; omega) (by have := asc_len hq; have := K.le; simp; omega) m
  rw [listV_of K hq, if_neg (by simp), ci_nat] at h
  exact h
end
theorem wrapU_succ {n : Nat} (h : n + 1 < 18446744073709551616) : IntKind.u64.wrap ((n : Int) + 1) = ((n + 1 : Nat) : Int) := by
  rw [IntWalk.u64_in _ (by omega)]; simp

/-! ### All lists are tried -/
def okF (s : List Int) (x : Nat) (fw : List Nat) (fd : Bool) : Bool := grdB s (memL x) && smV (ci (memL x)) (ci fw) fd
def foF (s : List Int) : Nat → Nat → List Nat → Bool → List Nat
  | 0, _, fw, _ => fw
  | d + 1, x, fw, fd => foF s d (x + 1) (if okF s x fw fd then memL x else fw) (okF s x fw fd || fd)
def mrV (a b : List Nat) : Bool := decide ((ci b).length < (ci a).length) || (decide ((ci a).length = (ci b).length) && decide (lexI (ci a) (ci b) < 0))
def okM (s : List Int) (x : Nat) (mn : List Nat) : Bool := fits (hd s) 0 (memL x) && mrV (memL x) mn
def foM (s : List Int) : Nat → Nat → List Nat → List Nat
  | 0, _, mn => mn
  | d + 1, x, mn => foM s d (x + 1) (if okM s x mn then memL x else mn)
theorem packed_r1 (S H V5 V6 V7 L X N Y : LV) (G V : Bool) (m : LMem) (hg : ∀ m, clF LP n_law12_guards [H, X] m = some (.P, .bool G, m)) (hs : ∀ m, clF LP n_law12_smaller [L, V5, V7] m = some (.P, .bool V, m)) :
    exF LP law12_PostPacked.B0.R0 [(3, S), (4, H), (5, V5), (6, V6), (7, V7), (8, X), (9, L), (21, N), (22, Y)] m = some (.normal, [(3, S), (4, H), (5, V5), (6, V6), (7, V7), (8, X), (9, L), (21, N), (22, Y), (35, .bool (G && V))], m) := by
  cases G <;> simp only [law12_PostPacked.B0.R0, beqT, beqF, exF_seq, exF_region, exF_block, exF_cond, exF_ret, exF_exit, exF_skip, runL, wantL, stepL, evL, evC, LEnv.at, putL, loadFine, loadL, cellsAt, Trk.putNew, Trk.up, Trk.touch, Trk.gives, Trk.calm, Trk.hit, opdsOf, Trk.fresh, LEnv.keep, LEnv.ofFrom, List.map_cons, List.map_nil, nbeq, nble, nblt, ofAV, ofAVs, lenL, bin_add, bin_sub, bin_mul, bin_eql, bin_neq, bin_lss, bin_leq, bin_gtr, bin_geq, natL_nat, natL_zero, natL_one, natL_two, Nat.zero_mul, List.any_cons, List.any_nil, Bool.or_false, Bool.false_or, Bool.true_or, Bool.or_true, Bool.and_true, Bool.true_and, Bool.and_false, Bool.false_and, Bool.not_true, Bool.not_false, Nat.reduceBEq, Nat.reduceEqDiff, decide_true, decide_false, cond_true, cond_false, List.filter_nil, List.filter_cons, Nat.reduceAdd, Nat.reduceLeDiff, reduceCtorEq, List.length_nil, List.length_cons, Nat.mul_one, if_true, if_false, Bool.false_eq_true, eq_self, and_true, true_and, retL, resultsL, resAllL, resOfL, List.append_nil, List.nil_append, List.cons_append, true_or, or_true, false_or, or_false, false_and, and_false, not_true_eq_false, not_false_eq_true, ne_eq, unL, trim_nil, views_pures, LV.pures, LV.pure, freeze, Nat.reduceDiv, Int.reduceEq, Int.reduceLT, Int.reduceLE, Int.natCast_zero, LV.cells, allocL, List.getElem?_cons_zero, List.getElem?_cons_succ, storeL, spliceL, List.take_zero, List.take_succ_cons, List.drop_zero, List.drop_succ_cons, List.drop_nil, List.take_nil, Nat.le_refl, Nat.reduceMul, List.set_cons_zero, List.set_cons_succ, LV.scalar, List.all_cons, List.all_nil, Nat.lt_add_one, Nat.zero_lt_one, Nat.reduceLT, Nat.lt_irrefl, fillL, List.length_append, foldIntL, kind_beq, pures_int, solids_int, plains_int, unders_int, scalars_int, hg, hs]
theorem packed_r2 (tl : LEnv) (S H V5 V7 X N Y : LV) (F : Bool) (n1 e1 n2 e2 : Bool) (z1 z2 ll ml : Nat) (c1 c2 : List LV) (c : Int) (m : LMem) (ha : ∀ m, clF LP n_law12_apart [H, X] m = some (.P, .bool F, m)) (hc : ∀ m, clF LP n_slices_Compare_int_int [.lst n1 e1 z1 ll c1, .lst n2 e2 z2 ml c2] m = some (.P, .int .i64 c, m)) :
    exF LP law12_PostPacked.B0.R1 ([(3, S), (4, H), (5, V5), (6, .lst n2 e2 z2 ml c2), (7, V7), (8, X), (9, .lst n1 e1 z1 ll c1), (21, N), (22, Y)] ++ tl) m = some (.normal, [(3, S), (4, H), (5, V5), (6, .lst n2 e2 z2 ml c2), (7, V7), (9, .lst n1 e1 z1 ll c1), (21, N), (22, Y), (59, .bool (F && (decide (ml < ll) || (decide (ll = ml) && decide (c < 0)))))], m) := by
  cases F
  · simp (maxSteps := 1000000) only [law12_PostPacked.B0.R1, beqT, beqF, exF_seq, exF_region, exF_block, exF_cond, exF_ret, exF_exit, exF_skip, runL, wantL, stepL, evL, evC, LEnv.at, putL, loadFine, loadL, cellsAt, Trk.putNew, Trk.up, Trk.touch, Trk.gives, Trk.calm, Trk.hit, opdsOf, Trk.fresh, LEnv.keep, LEnv.ofFrom, List.map_cons, List.map_nil, nbeq, nble, nblt, ofAV, ofAVs, lenL, bin_add, bin_sub, bin_mul, bin_eql, bin_neq, bin_lss, bin_leq, bin_gtr, bin_geq, natL_nat, natL_zero, natL_one, natL_two, Nat.zero_mul, List.any_cons, List.any_nil, Bool.or_false, Bool.false_or, Bool.true_or, Bool.or_true, Bool.and_true, Bool.true_and, Bool.and_false, Bool.false_and, Bool.not_true, Bool.not_false, Nat.reduceBEq, Nat.reduceEqDiff, decide_true, decide_false, cond_true, cond_false, List.filter_nil, List.filter_cons, Nat.reduceAdd, Nat.reduceLeDiff, reduceCtorEq, List.length_nil, List.length_cons, Nat.mul_one, if_true, if_false, Bool.false_eq_true, eq_self, and_true, true_and, retL, resultsL, resAllL, resOfL, List.append_nil, List.nil_append, List.cons_append, true_or, or_true, false_or, or_false, false_and, and_false, not_true_eq_false, not_false_eq_true, ne_eq, unL, trim_nil, views_pures, LV.pures, LV.pure, freeze, Nat.reduceDiv, Int.reduceEq, Int.reduceLT, Int.reduceLE, Int.natCast_zero, LV.cells, allocL, List.getElem?_cons_zero, List.getElem?_cons_succ, storeL, spliceL, List.take_zero, List.take_succ_cons, List.drop_zero, List.drop_succ_cons, List.drop_nil, List.take_nil, Nat.le_refl, Nat.reduceMul, List.set_cons_zero, List.set_cons_succ, LV.scalar, List.all_cons, List.all_nil, Nat.lt_add_one, Nat.zero_lt_one, Nat.reduceLT, Nat.lt_irrefl, fillL, List.length_append, foldIntL, kind_beq, pures_int, solids_int, plains_int, unders_int, scalars_int, ha]
  · by_cases q1 : ml < ll
    · simp (maxSteps := 1000000) only [law12_PostPacked.B0.R1, beqT, beqF, exF_seq, exF_region, exF_block, exF_cond, exF_ret, exF_exit, exF_skip, runL, wantL, stepL, evL, evC, LEnv.at, putL, loadFine, loadL, cellsAt, Trk.putNew, Trk.up, Trk.touch, Trk.gives, Trk.calm, Trk.hit, opdsOf, Trk.fresh, LEnv.keep, LEnv.ofFrom, List.map_cons, List.map_nil, nbeq, nble, nblt, ofAV, ofAVs, lenL, bin_add, bin_sub, bin_mul, bin_eql, bin_neq, bin_lss, bin_leq, bin_gtr, bin_geq, natL_nat, natL_zero, natL_one, natL_two, Nat.zero_mul, List.any_cons, List.any_nil, Bool.or_false, Bool.false_or, Bool.true_or, Bool.or_true, Bool.and_true, Bool.true_and, Bool.and_false, Bool.false_and, Bool.not_true, Bool.not_false, Nat.reduceBEq, Nat.reduceEqDiff, decide_true, decide_false, cond_true, cond_false, List.filter_nil, List.filter_cons, Nat.reduceAdd, Nat.reduceLeDiff, reduceCtorEq, List.length_nil, List.length_cons, Nat.mul_one, if_true, if_false, Bool.false_eq_true, eq_self, and_true, true_and, retL, resultsL, resAllL, resOfL, List.append_nil, List.nil_append, List.cons_append, true_or, or_true, false_or, or_false, false_and, and_false, not_true_eq_false, not_false_eq_true, ne_eq, unL, trim_nil, views_pures, LV.pures, LV.pure, freeze, Nat.reduceDiv, Int.reduceEq, Int.reduceLT, Int.reduceLE, Int.natCast_zero, LV.cells, allocL, List.getElem?_cons_zero, List.getElem?_cons_succ, storeL, spliceL, List.take_zero, List.take_succ_cons, List.drop_zero, List.drop_succ_cons, List.drop_nil, List.take_nil, Nat.le_refl, Nat.reduceMul, List.set_cons_zero, List.set_cons_succ, LV.scalar, List.all_cons, List.all_nil, Nat.lt_add_one, Nat.zero_lt_one, Nat.reduceLT, Nat.lt_irrefl, fillL, List.length_append, foldIntL, kind_beq, pures_int, solids_int, plains_int, unders_int, scalars_int, ha, q1, show ((ml : Int) < (ll : Int)) by omega]
    · by_cases q2 : ll = ml
      · subst q2
        by_cases q3 : c < 0
        · simp (maxSteps := 1000000) only [law12_PostPacked.B0.R1, beqT, beqF, exF_seq, exF_region, exF_block, exF_cond, exF_ret, exF_exit, exF_skip, runL, wantL, stepL, evL, evC, LEnv.at, putL, loadFine, loadL, cellsAt, Trk.putNew, Trk.up, Trk.touch, Trk.gives, Trk.calm, Trk.hit, opdsOf, Trk.fresh, LEnv.keep, LEnv.ofFrom, List.map_cons, List.map_nil, nbeq, nble, nblt, ofAV, ofAVs, lenL, bin_add, bin_sub, bin_mul, bin_eql, bin_neq, bin_lss, bin_leq, bin_gtr, bin_geq, natL_nat, natL_zero, natL_one, natL_two, Nat.zero_mul, List.any_cons, List.any_nil, Bool.or_false, Bool.false_or, Bool.true_or, Bool.or_true, Bool.and_true, Bool.true_and, Bool.and_false, Bool.false_and, Bool.not_true, Bool.not_false, Nat.reduceBEq, Nat.reduceEqDiff, decide_true, decide_false, cond_true, cond_false, List.filter_nil, List.filter_cons, Nat.reduceAdd, Nat.reduceLeDiff, reduceCtorEq, List.length_nil, List.length_cons, Nat.mul_one, if_true, if_false, Bool.false_eq_true, eq_self, and_true, true_and, retL, resultsL, resAllL, resOfL, List.append_nil, List.nil_append, List.cons_append, true_or, or_true, false_or, or_false, false_and, and_false, not_true_eq_false, not_false_eq_true, ne_eq, unL, trim_nil, views_pures, LV.pures, LV.pure, freeze, Nat.reduceDiv, Int.reduceEq, Int.reduceLT, Int.reduceLE, Int.natCast_zero, LV.cells, allocL, List.getElem?_cons_zero, List.getElem?_cons_succ, storeL, spliceL, List.take_zero, List.take_succ_cons, List.drop_zero, List.drop_succ_cons, List.drop_nil, List.take_nil, Nat.le_refl, Nat.reduceMul, List.set_cons_zero, List.set_cons_succ, LV.scalar, List.all_cons, List.all_nil, Nat.lt_add_one, Nat.zero_lt_one, Nat.reduceLT, Nat.lt_irrefl, fillL, List.length_append, foldIntL, kind_beq, pures_int, solids_int, plains_int, unders_int, scalars_int, ha, Nat.lt_irrefl, Int.lt_irrefl, hc, q3]
        · simp (maxSteps := 1000000) only [law12_PostPacked.B0.R1, beqT, beqF, exF_seq, exF_region, exF_block, exF_cond, exF_ret, exF_exit, exF_skip, runL, wantL, stepL, evL, evC, LEnv.at, putL, loadFine, loadL, cellsAt, Trk.putNew, Trk.up, Trk.touch, Trk.gives, Trk.calm, Trk.hit, opdsOf, Trk.fresh, LEnv.keep, LEnv.ofFrom, List.map_cons, List.map_nil, nbeq, nble, nblt, ofAV, ofAVs, lenL, bin_add, bin_sub, bin_mul, bin_eql, bin_neq, bin_lss, bin_leq, bin_gtr, bin_geq, natL_nat, natL_zero, natL_one, natL_two, Nat.zero_mul, List.any_cons, List.any_nil, Bool.or_false, Bool.false_or, Bool.true_or, Bool.or_true, Bool.and_true, Bool.true_and, Bool.and_false, Bool.false_and, Bool.not_true, Bool.not_false, Nat.reduceBEq, Nat.reduceEqDiff, decide_true, decide_false, cond_true, cond_false, List.filter_nil, List.filter_cons, Nat.reduceAdd, Nat.reduceLeDiff, reduceCtorEq, List.length_nil, List.length_cons, Nat.mul_one, if_true, if_false, Bool.false_eq_true, eq_self, and_true, true_and, retL, resultsL, resAllL, resOfL, List.append_nil, List.nil_append, List.cons_append, true_or, or_true, false_or, or_false, false_and, and_false, not_true_eq_false, not_false_eq_true, ne_eq, unL, trim_nil, views_pures, LV.pures, LV.pure, freeze, Nat.reduceDiv, Int.reduceEq, Int.reduceLT, Int.reduceLE, Int.natCast_zero, LV.cells, allocL, List.getElem?_cons_zero, List.getElem?_cons_succ, storeL, spliceL, List.take_zero, List.take_succ_cons, List.drop_zero, List.drop_succ_cons, List.drop_nil, List.take_nil, Nat.le_refl, Nat.reduceMul, List.set_cons_zero, List.set_cons_succ, LV.scalar, List.all_cons, List.all_nil, Nat.lt_add_one, Nat.zero_lt_one, Nat.reduceLT, Nat.lt_irrefl, fillL, List.length_append, foldIntL, kind_beq, pures_int, solids_int, plains_int, unders_int, scalars_int, ha, Nat.lt_irrefl, Int.lt_irrefl, hc, q3]
      · simp (maxSteps := 1000000) only [law12_PostPacked.B0.R1, beqT, beqF, exF_seq, exF_region, exF_block, exF_cond, exF_ret, exF_exit, exF_skip, runL, wantL, stepL, evL, evC, LEnv.at, putL, loadFine, loadL, cellsAt, Trk.putNew, Trk.up, Trk.touch, Trk.gives, Trk.calm, Trk.hit, opdsOf, Trk.fresh, LEnv.keep, LEnv.ofFrom, List.map_cons, List.map_nil, nbeq, nble, nblt, ofAV, ofAVs, lenL, bin_add, bin_sub, bin_mul, bin_eql, bin_neq, bin_lss, bin_leq, bin_gtr, bin_geq, natL_nat, natL_zero, natL_one, natL_two, Nat.zero_mul, List.any_cons, List.any_nil, Bool.or_false, Bool.false_or, Bool.true_or, Bool.or_true, Bool.and_true, Bool.true_and, Bool.and_false, Bool.false_and, Bool.not_true, Bool.not_false, Nat.reduceBEq, Nat.reduceEqDiff, decide_true, decide_false, cond_true, cond_false, List.filter_nil, List.filter_cons, Nat.reduceAdd, Nat.reduceLeDiff, reduceCtorEq, List.length_nil, List.length_cons, Nat.mul_one, if_true, if_false, Bool.false_eq_true, eq_self, and_true, true_and, retL, resultsL, resAllL, resOfL, List.append_nil, List.nil_append, List.cons_append, true_or, or_true, false_or, or_false, false_and, and_false, not_true_eq_false, not_false_eq_true, ne_eq, unL, trim_nil, views_pures, LV.pures, LV.pure, freeze, Nat.reduceDiv, Int.reduceEq, Int.reduceLT, Int.reduceLE, Int.natCast_zero, LV.cells, allocL, List.getElem?_cons_zero, List.getElem?_cons_succ, storeL, spliceL, List.take_zero, List.take_succ_cons, List.drop_zero, List.drop_succ_cons, List.drop_nil, List.take_nil, Nat.le_refl, Nat.reduceMul, List.set_cons_zero, List.set_cons_succ, LV.scalar, List.all_cons, List.all_nil, Nat.lt_add_one, Nat.zero_lt_one, Nat.reduceLT, Nat.lt_irrefl, fillL, List.length_append, foldIntL, kind_beq, pures_int, solids_int, plains_int, unders_int, scalars_int, ha, q1, q2, show ¬ ((ml : Int) < (ll : Int)) by omega, show ¬ ((ll : Int) = (ml : Int)) by omega]
theorem packed_loop (b dd : Bool) {s : List Int} (K : OkS s) (N : Nat) (hN : N = 2 ^ s.length) (m : LMem) (d : Nat) : ∀ (x : Nat) (fw : List Nat) (fd : Bool) (mn : List Nat), x + d = N → fw.length ≤ 10 → mn.length ≤ 10 →
    exF LP law12_PostPacked.L0 [(3, IL false b 1 s), (4, UD dd (handsV s)), (5, RV fw), (6, RV mn), (7, .bool fd), (21, .int .u64 (N : Int)), (22, .int .u64 (x : Int))] m =
      some (.exit 0, [(3, IL false b 1 s), (5, RV (foF s d x fw fd)), (6, RV (foM s d x mn))], m) := by
  have hN2 : N ≤ 1024 := by rw [hN]; exact pow_1024 K.le
  induction d with
  | zero =>
    intro x fw fd mn hx _ _
    rw [law12_PostPacked.L0_eq, foF, foM]
    simp only [law12_PostPacked.B0, beqT, beqF, exF_seq, exF_region, exF_block, exF_cond, exF_ret, exF_exit, exF_skip, runL, wantL, stepL, evL, evC, LEnv.at, putL, loadFine, loadL, cellsAt, Trk.putNew, Trk.up, Trk.touch, Trk.gives, Trk.calm, Trk.hit, opdsOf, Trk.fresh, LEnv.keep, LEnv.ofFrom, List.map_cons, List.map_nil, nbeq, nble, nblt, ofAV, ofAVs, lenL, bin_add, bin_sub, bin_mul, bin_eql, bin_neq, bin_lss, bin_leq, bin_gtr, bin_geq, natL_nat, natL_zero, natL_one, natL_two, Nat.zero_mul, List.any_cons, List.any_nil, Bool.or_false, Bool.false_or, Bool.true_or, Bool.or_true, Bool.and_true, Bool.true_and, Bool.and_false, Bool.false_and, Bool.not_true, Bool.not_false, Nat.reduceBEq, Nat.reduceEqDiff, decide_true, decide_false, cond_true, cond_false, List.filter_nil, List.filter_cons, Nat.reduceAdd, Nat.reduceLeDiff, reduceCtorEq, List.length_nil, List.length_cons, Nat.mul_one, if_true, if_false, Bool.false_eq_true, eq_self, and_true, true_and, retL, resultsL, resAllL, resOfL, List.append_nil, List.nil_append, List.cons_append, true_or, or_true, false_or, or_false, false_and, and_false, not_true_eq_false, not_false_eq_true, ne_eq, unL, trim_nil, views_pures, LV.pures, LV.pure, freeze, Nat.reduceDiv, Int.reduceEq, Int.reduceLT, Int.reduceLE, Int.natCast_zero, LV.cells, allocL, List.getElem?_cons_zero, List.getElem?_cons_succ, storeL, spliceL, List.take_zero, List.take_succ_cons, List.drop_zero, List.drop_succ_cons, List.drop_nil, List.take_nil, Nat.le_refl, Nat.reduceMul, List.set_cons_zero, List.set_cons_succ, LV.scalar, List.all_cons, List.all_nil, Nat.lt_add_one, Nat.zero_lt_one, Nat.reduceLT, Nat.lt_irrefl, fillL, List.length_append, foldIntL, kind_beq, pures_int, solids_int, plains_int, unders_int, scalars_int, show ¬ ((x : Int) < (N : Int)) by omega]
  | succ d ih =>
    intro x fw fd mn hx hf hm
    have hx2 : x < 1024 := by omega
    have hxs : x < 2 ^ s.length := by omega
    have h10 := memL_len x
    have hmem := fun m => memb_v hx2 m
    have hg := fun m => lguards_c dd K hxs m
    have ha := fun m => lapart_c dd K hxs m
    have hs := fun m => smaller_v h10 hf fd m
    have hc := fun m => compare_v h10 hm m
    have hw := wrapU_succ (n := x) (by omega)
    have l1 := RV_len (memL x)
    have l2 := RV_len mn
    have hlt : (x : Int) < (N : Int) := by omega
    rw [law12_PostPacked.L0_eq, foF, foM]
    have ih := ih (x + 1) (if okF s x fw fd then memL x else fw) (okF s x fw fd || fd) (if okM s x mn then memL x else mn) (by omega) (by split <;> omega) (by split <;> omega)
    have r1 := packed_r1 (IL false b 1 s) (UD dd (handsV s)) (RV fw) (RV mn) (.bool fd) (RV (memL x)) (.int .u64 (x : Int)) (.int .u64 (N : Int)) (.int .u64 (x : Int)) _ _ m hg hs
    have r2a : ∀ V5 V7, exF LP law12_PostPacked.B0.R1 [(3, IL false b 1 s), (4, UD dd (handsV s)), (5, V5), (6, RV mn), (7, V7), (8, .int .u64 (x : Int)), (9, RV (memL x)), (21, .int .u64 (N : Int)), (22, .int .u64 (x : Int))] m = some (AExit.normal, [(3, IL false b 1 s), (4, UD dd (handsV s)), (5, V5), (6, RV mn), (7, V7), (9, RV (memL x)), (21, .int .u64 (N : Int)), (22, .int .u64 (x : Int)), (59, LV.bool (okM s x mn))], m) := fun V5 V7 =>
      packed_r2 [] (IL false b 1 s) (UD dd (handsV s)) V5 V7 (.int .u64 (x : Int)) (.int .u64 (N : Int)) (.int .u64 (x : Int)) _ _ _ _ _ _ _ _ _ _ _ _ m ha hc
    have r2b : ∀ V5 V7, exF LP law12_PostPacked.B0.R1 [(3, IL false b 1 s), (4, UD dd (handsV s)), (5, V5), (6, RV mn), (7, V7), (8, .int .u64 (x : Int)), (9, RV (memL x)), (21, .int .u64 (N : Int)), (22, .int .u64 (x : Int)), (35, .bool false)] m = some (AExit.normal, [(3, IL false b 1 s), (4, UD dd (handsV s)), (5, V5), (6, RV mn), (7, V7), (9, RV (memL x)), (21, .int .u64 (N : Int)), (22, .int .u64 (x : Int)), (59, LV.bool (okM s x mn))], m) := fun V5 V7 =>
      packed_r2 [(35, .bool false)] (IL false b 1 s) (UD dd (handsV s)) V5 V7 (.int .u64 (x : Int)) (.int .u64 (N : Int)) (.int .u64 (x : Int)) _ _ _ _ _ _ _ _ _ _ _ _ m ha hc
    change _ = some (AExit.normal, [(3, _), (4, _), (5, _), (6, _), (7, _), (8, _), (9, _), (21, _), (22, _), (35, LV.bool (okF s x fw fd))], m) at r1
    generalize okF s x fw fd = A at *
    generalize okM s x mn = B at *
    generalize memL x = l at *
    generalize UD dd (handsV s) = H at *
    generalize IL false b 1 s = S at *
    cases A <;> cases B
    all_goals
      simp only [if_true, if_false, Bool.false_eq_true, Bool.true_or, Bool.false_or] at ih ⊢
      simp only [law12_PostPacked.B0]
      simp (maxSteps := 1000000) only [beqT, beqF, exF_seq, exF_region, exF_block, exF_cond, exF_ret, exF_exit, exF_skip, runL, wantL, stepL, evL, evC, LEnv.at, putL, loadFine, loadL, cellsAt, Trk.putNew, Trk.up, Trk.touch, Trk.gives, Trk.calm, Trk.hit, opdsOf, Trk.fresh, LEnv.keep, LEnv.ofFrom, List.map_cons, List.map_nil, nbeq, nble, nblt, ofAV, ofAVs, lenL, bin_add, bin_sub, bin_mul, bin_eql, bin_neq, bin_lss, bin_leq, bin_gtr, bin_geq, natL_nat, natL_zero, natL_one, natL_two, Nat.zero_mul, List.any_cons, List.any_nil, Bool.or_false, Bool.false_or, Bool.true_or, Bool.or_true, Bool.and_true, Bool.true_and, Bool.and_false, Bool.false_and, Bool.not_true, Bool.not_false, Nat.reduceBEq, Nat.reduceEqDiff, decide_true, decide_false, cond_true, cond_false, List.filter_nil, List.filter_cons, Nat.reduceAdd, Nat.reduceLeDiff, reduceCtorEq, List.length_nil, List.length_cons, Nat.mul_one, if_true, if_false, Bool.false_eq_true, eq_self, and_true, true_and, retL, resultsL, resAllL, resOfL, List.append_nil, List.nil_append, List.cons_append, true_or, or_true, false_or, or_false, false_and, and_false, not_true_eq_false, not_false_eq_true, ne_eq, unL, trim_nil, views_pures, LV.pures, LV.pure, freeze, Nat.reduceDiv, Int.reduceEq, Int.reduceLT, Int.reduceLE, Int.natCast_zero, LV.cells, allocL, List.getElem?_cons_zero, List.getElem?_cons_succ, storeL, spliceL, List.take_zero, List.take_succ_cons, List.drop_zero, List.drop_succ_cons, List.drop_nil, List.take_nil, Nat.le_refl, Nat.reduceMul, List.set_cons_zero, List.set_cons_succ, LV.scalar, List.all_cons, List.all_nil, Nat.lt_add_one, Nat.zero_lt_one, Nat.reduceLT, Nat.lt_irrefl, fillL, List.length_append, foldIntL, kind_beq, pures_int, solids_int, plains_int, unders_int, scalars_int, hlt, hmem, hw, r1, r2a, r2b]
      exact ih
end Go.Am.Post

/-
  What functions of chapter 12 compute, by tables 5: the law 'PostPacked'.
-/
set_option linter.unusedVariables false
set_option linter.unusedSimpArgs false
set_option maxRecDepth 10000
set_option maxHeartbeats 2000000
namespace Go.Am.Post
open Go.Am.G

/-! ### What the loop finds -/
theorem foF_pick (s : List Int) (w : List Nat) (d : Nat) : ∀ (x : Nat) (fw : List Nat) (fd : Bool), pick (grdB s) (fun l c => smV (ci l) (ci c) true) ((List.range' x d).map memL) (if fd then some fw else none) = some w → foF s d x fw fd = w := by
  induction d with
  | zero =>
    intro x fw fd h
    cases fd
    · cases h
    · exact Option.some.inj h
  | succ d ih =>
    intro x fw fd h
    rw [foF]
    rw [List.range'_succ, List.map_cons, pick] at h
    refine ih _ _ _ ?_
    rw [← h]
    congr 1
    cases fd
    · have e : okF s x fw false = (grdB s (memL x) && bets (fun l c => smV (ci l) (ci c) true) (memL x) none) := by
        simp [okF, smV, bets]
      rw [e]
      simp only [Bool.false_eq_true, if_false, Bool.or_false]
      split <;> rfl
    · have e : okF s x fw true = (grdB s (memL x) && bets (fun l c => smV (ci l) (ci c) true) (memL x) (some fw)) := rfl
      rw [e]
      simp only [if_true, Bool.or_true]
      split <;> rfl
theorem foM_pick (s : List Int) (w : List Nat) (d : Nat) : ∀ (x : Nat) (mn : List Nat), pick (fits (hd s) 0) mrV ((List.range' x d).map memL) (some mn) = some w → foM s d x mn = w := by
  induction d with
  | zero => intro x mn h; exact Option.some.inj h
  | succ d ih =>
    intro x mn h
    rw [foM]
    rw [List.range'_succ, List.map_cons, pick] at h
    refine ih _ _ ?_
    rw [← h]
    congr 1
    have e : okM s x mn = (fits (hd s) 0 (memL x) && bets mrV (memL x) (some mn)) := rfl
    rw [e]
    split <;> rfl
theorem grd_goodC {s : List Int} (K : OkS s) {l : List Nat} (hl : l ∈ asc 0 s.length) (h : grdB s l = true) (e : l.length = bestC s (fun _ => 1)) : goodC (par s) s.length (fun _ => 1) (bestC s (fun _ => 1)) l = true := by
  rw [goodC, ← grd_dom K hl, h, cost_one, e]; simp
theorem foF_first {s : List Int} (K : OkS s) : foF s (2 ^ s.length) 0 [] false = firstS s (fun _ => 1) := by
  apply foF_pick
  have hw := firstS_asc s (fun _ => 1)
  have hg := firstS_good s (fun _ => 1)
  have hlen := few_len s
  rw [← List.range_eq_range']
  refine pick_ok _ _ (fun l => l ∈ asc 0 s.length) _ (by rw [grd_dom K hw]; exact hg.1) (fun l hl hgl hne => ?_) (fun l hl hgl => ?_) _ _ (fun l hl => (sets_mem K.le l).1 hl) (fun c hc => by cases hc) (.inr ((sets_mem K.le _).2 hw))
  all_goals
    have h1 := best_min (fun _ => 1) hl (by rw [← grd_dom K hl]; exact hgl)
    rw [cost_one] at h1
  · unfold smV
    rw [ci_ln, ci_ln, hlen]
    by_cases c : bestC s (fun _ => 1) < l.length
    · simp [c]
    · have e : l.length = bestC s (fun _ => 1) := by omega
      have := find_lex (asc_lex _ _) (firstS_find s (fun _ => 1)) l hl (grd_goodC K hl hgl e) hne
      unfold lexLt at this
      simp [e, this]
  · unfold smV
    rw [ci_ln, ci_ln, hlen]
    have c : ¬ l.length < bestC s (fun _ => 1) := by omega
    by_cases e : l.length = bestC s (fun _ => 1)
    · have : ¬ lexI (ci l) (ci (firstS s fun _ => 1)) < 0 := by
        by_cases q : l = firstS s fun _ => 1
        · rw [q]; exact lexLt_irr _
        · exact lexLt_asym (find_lex (asc_lex _ _) (firstS_find s (fun _ => 1)) l hl (grd_goodC K hl hgl e) q)
      simp only [Bool.not_true, Bool.false_or, e, Nat.lt_irrefl, decide_false, decide_true, Bool.true_and, this]
    · simp [c, e]
theorem foM_most {s : List Int} (K : OkS s) : foM s (2 ^ s.length) 0 [] = grM (hd s) s.length 0 0 := by
  apply foM_pick
  have hf := gr_find (hd s) s.length 0 0
  have hw := List.mem_of_find?_eq_some hf
  have hp := List.find?_some hf
  simp only [Bool.and_eq_true, decide_eq_true_eq] at hp
  have hnil : ([] : List Nat) ∈ asc 0 s.length := (mem_asc _ _ _).2 ⟨trivial, by simp⟩
  rw [← List.range_eq_range']
  refine pick_ok _ _ (fun l => l ∈ asc 0 s.length) _ hp.1 (fun l hl hgl hne => ?_) (fun l hl hgl => ?_) _ _ (fun l hl => (sets_mem K.le l).1 hl) (fun c hc => by cases hc; exact ⟨hnil, rfl⟩) (.inr ((sets_mem K.le _).2 hw))
  all_goals
    have h1 := most_le (hd s) s.length 0 0 l hl hgl
  · unfold mrV
    rw [ci_ln, ci_ln, hp.2]
    by_cases c : l.length < mostM (hd s) s.length 0 0
    · simp [c]
    · have e : l.length = mostM (hd s) s.length 0 0 := by omega
      have := find_lex (asc_lex _ _) hf l hl (by simp [hgl, e]) hne
      unfold lexLt at this
      simp [e, this]
  · unfold mrV
    rw [ci_ln, ci_ln, hp.2]
    have c : ¬ mostM (hd s) s.length 0 0 < l.length := by omega
    by_cases e : l.length = mostM (hd s) s.length 0 0
    · have : ¬ lexI (ci l) (ci (grM (hd s) s.length 0 0)) < 0 := by
        by_cases q : l = grM (hd s) s.length 0 0
        · rw [q]; exact lexLt_irr _
        · exact lexLt_asym (find_lex (asc_lex _ _) hf l hl (by simp [hgl, e]) q)
      simp only [Bool.false_or, e, Nat.lt_irrefl, decide_false, decide_true, Bool.true_and, this]
    · simp [c, e]
theorem gr_asc (s : List Int) : grM (hd s) s.length 0 0 ∈ asc 0 s.length := List.mem_of_find?_eq_some (gr_find (hd s) s.length 0 0)
theorem gr_fits (s : List Int) : fits (hd s) 0 (grM (hd s) s.length 0 0) = true := by
  have hp := List.find?_some (gr_find (hd s) s.length 0 0)
  simp only [Bool.and_eq_true] at hp
  exact hp.1
theorem gr_len {s : List Int} (K : OkS s) : (grM (hd s) s.length 0 0).length ≤ 10 := by
  have := asc_len (gr_asc s); have := K.le; omega
theorem firstS_len {s : List Int} (K : OkS s) (p : Nat → Nat) : (firstS s p).length ≤ 10 := by
  have := asc_len (firstS_asc s p); have := K.le; omega

/-! ### The law -/
theorem packed_r3 (b : Bool) {s : List Int} (K : OkS s) (m : LMem) :
    exF LP law12_PostPacked.B.R0 [(3, IL false b 1 s), (5, RV (firstS s (fun _ => 1))), (6, RV (grM (hd s) s.length 0 0)), (10, RV (firstS s (fun _ => 1))), (11, .int .i64 0), (12, RV (grM (hd s) s.length 0 0)), (13, .int .i64 0)] m = some (.normal, [(2, .bool true)], m) := by
  have s1 := fun m => same_v (firstS_len K (fun _ => 1)) m
  have s2 := fun m => same_v (gr_len K) m
  have l1 := RV_len (firstS s (fun _ => 1))
  have l2 := RV_len (grM (hd s) s.length 0 0)
  have l0 : lenL (IL false b 1 s) = some s.length := rfl
  have g := fun m => guards_v b K m (firstS_asc s (fun _ => 1))
  have g2 := fun m => proves_v b K m (gr_asc s)
  rw [guardV, grd_dom K (firstS_asc s _), if_pos (firstS_good s (fun _ => 1)).1] at g
  rw [provesV, if_pos (gr_fits s)] at g2
  rw [apart_few K] at l2
  rw [few_len] at l1
  have hh := few_half K
  have hle := K.le
  generalize RV (firstS s (fun _ => 1)) = A at *
  generalize RV (grM (hd s) s.length 0 0) = B at *
  generalize bestC s (fun _ => 1) = c at *
  by_cases h2 : s.length < 2
  · simp (maxSteps := 1000000) only [law12_PostPacked.B.R0, beqT, beqF, exF_seq, exF_region, exF_block, exF_cond, exF_ret, exF_exit, exF_skip, runL, wantL, stepL, evL, evC, LEnv.at, putL, loadFine, loadL, cellsAt, Trk.putNew, Trk.up, Trk.touch, Trk.gives, Trk.calm, Trk.hit, opdsOf, Trk.fresh, LEnv.keep, LEnv.ofFrom, List.map_cons, List.map_nil, nbeq, nble, nblt, ofAV, ofAVs, bin_add, bin_sub, bin_mul, bin_eql, bin_neq, bin_lss, bin_leq, bin_gtr, bin_geq, natL_nat, natL_zero, natL_one, natL_two, Nat.zero_mul, List.any_cons, List.any_nil, Bool.or_false, Bool.false_or, Bool.true_or, Bool.or_true, Bool.and_true, Bool.true_and, Bool.and_false, Bool.false_and, Bool.not_true, Bool.not_false, Nat.reduceBEq, Nat.reduceEqDiff, decide_true, decide_false, cond_true, cond_false, List.filter_nil, List.filter_cons, Nat.reduceAdd, Nat.reduceLeDiff, reduceCtorEq, List.length_nil, List.length_cons, Nat.mul_one, if_true, if_false, Bool.false_eq_true, eq_self, and_true, true_and, retL, resultsL, resAllL, resOfL, List.append_nil, List.nil_append, List.cons_append, true_or, or_true, false_or, or_false, false_and, and_false, not_true_eq_false, not_false_eq_true, ne_eq, unL, trim_nil, views_pures, LV.pures, LV.pure, freeze, Nat.reduceDiv, Int.reduceEq, Int.reduceLT, Int.reduceLE, Int.natCast_zero, LV.cells, allocL, List.getElem?_cons_zero, List.getElem?_cons_succ, storeL, spliceL, List.take_zero, List.take_succ_cons, List.drop_zero, List.drop_succ_cons, List.drop_nil, List.take_nil, Nat.le_refl, Nat.reduceMul, List.set_cons_zero, List.set_cons_succ, LV.scalar, List.all_cons, List.all_nil, Nat.lt_add_one, Nat.zero_lt_one, Nat.reduceLT, Nat.lt_irrefl, fillL, List.length_append, foldIntL, kind_beq, pures_int, solids_int, plains_int, unders_int, scalars_int, s1, s2, l0, l1, l2, g, g2, works_c, show ((s.length : Int) < 2) by omega]
  · have hh := hh (by omega)
    have hw : IntKind.i64.wrap (2 * (c : Int)) = 2 * (c : Int) := wrap_in (by omega)
    simp (maxSteps := 1000000) only [law12_PostPacked.B.R0, beqT, beqF, exF_seq, exF_region, exF_block, exF_cond, exF_ret, exF_exit, exF_skip, runL, wantL, stepL, evL, evC, LEnv.at, putL, loadFine, loadL, cellsAt, Trk.putNew, Trk.up, Trk.touch, Trk.gives, Trk.calm, Trk.hit, opdsOf, Trk.fresh, LEnv.keep, LEnv.ofFrom, List.map_cons, List.map_nil, nbeq, nble, nblt, ofAV, ofAVs, bin_add, bin_sub, bin_mul, bin_eql, bin_neq, bin_lss, bin_leq, bin_gtr, bin_geq, natL_nat, natL_zero, natL_one, natL_two, Nat.zero_mul, List.any_cons, List.any_nil, Bool.or_false, Bool.false_or, Bool.true_or, Bool.or_true, Bool.and_true, Bool.true_and, Bool.and_false, Bool.false_and, Bool.not_true, Bool.not_false, Nat.reduceBEq, Nat.reduceEqDiff, decide_true, decide_false, cond_true, cond_false, List.filter_nil, List.filter_cons, Nat.reduceAdd, Nat.reduceLeDiff, reduceCtorEq, List.length_nil, List.length_cons, Nat.mul_one, if_true, if_false, Bool.false_eq_true, eq_self, and_true, true_and, retL, resultsL, resAllL, resOfL, List.append_nil, List.nil_append, List.cons_append, true_or, or_true, false_or, or_false, false_and, and_false, not_true_eq_false, not_false_eq_true, ne_eq, unL, trim_nil, views_pures, LV.pures, LV.pure, freeze, Nat.reduceDiv, Int.reduceEq, Int.reduceLT, Int.reduceLE, Int.natCast_zero, LV.cells, allocL, List.getElem?_cons_zero, List.getElem?_cons_succ, storeL, spliceL, List.take_zero, List.take_succ_cons, List.drop_zero, List.drop_succ_cons, List.drop_nil, List.take_nil, Nat.le_refl, Nat.reduceMul, List.set_cons_zero, List.set_cons_succ, LV.scalar, List.all_cons, List.all_nil, Nat.lt_add_one, Nat.zero_lt_one, Nat.reduceLT, Nat.lt_irrefl, fillL, List.length_append, foldIntL, kind_beq, pures_int, solids_int, plains_int, unders_int, scalars_int, s1, s2, l0, l1, l2, g, g2, works_c, hw, show ¬ ((s.length : Int) < 2) by omega, show (2 * (c : Int) ≤ (s.length : Int)) by omega]
theorem packed_in (ns : List Int) (hl : ns.length = 11) (hb : ∀ n ∈ ns, 0 ≤ n ∧ n < 256) :
    clF LP n_law12_PostPacked [.agg (ns.map (LV.int .u8))] [] = some (.P, .bool true, []) := by
  obtain ⟨l, rfl, hlb⟩ := bytes_nat ns hb
  rw [ci_ln] at hl
  obtain ⟨p, bs, rfl⟩ : ∃ p bs, l = p :: bs := by
    cases l with
    | nil => simp at hl
    | cons p bs => exact ⟨p, bs, rfl⟩
  have hb10 : bs.length = 10 := by simpa using hl
  show clF LP n_law12_PostPacked [.agg (bys (p :: bs))] [] = some (.P, .bool true, [])
  obtain ⟨f1, f2, hm⟩ := made_c p (hlb p (by simp)) 9 (by omega) (by omega) bs hb10 (fun x hx => hlb x (by simp [hx]))
  have hk : p % 9 < 9 := Nat.mod_lt _ (by omega)
  obtain ⟨K, hsl⟩ := shoreN_ok (1 + p % 9) (by omega) (by omega) bs
  rw [hand_eq (1 + p % 9) (by omega) (by omega) bs] at hm
  have hm : ∀ m, clF LP n_law12_Coast_made [.agg (bys (p :: bs)), .int .i64 9] m = some (.P, .tup [IL false f1 1 (shoreN (1 + p % 9) bs), UD f2 (handsV (shoreN (1 + p % 9) bs))], m) := fun m => by
    have := hm m
    rw [show UD f2 (handsV (shoreN (1 + p % 9) bs)) = .lst false f2 1 (1 + p % 9) (nats (handsV (shoreN (1 + p % 9) bs))) by rw [UD, handsV_length, hsl]]
    exact this
  have hbl : (bys (p :: bs)).length = 11 := by simp [hb10]
  have hps : LV.pures (bys (p :: bs)) = true := pures_int _ _
  have htk : (bys (p :: bs)).take 11 = bys (p :: bs) := List.take_of_length_le (by omega)
  generalize bys (p :: bs) = w at *
  generalize shoreN (1 + p % 9) bs = s at *
  have hpure : LV.pures [LV.agg w] = true := by simp only [LV.pures, LV.pure, hps, Bool.and_true]
  refine call_P lp_law12_PostPacked rfl hpure (m1 := [⟨w, true⟩]) ?_ rfl []
  have hlo := packed_loop f1 f2 K _ rfl [⟨w, true⟩] (2 ^ s.length) 0 [] false [] (by omega) (by simp) (by simp)
  rw [foF_first K, foM_most K] at hlo
  have hsh : binL .shl (.int .u64 1) (.int .i64 (s.length : Int)) = some (.int .u64 ((2 ^ s.length : Nat) : Int)) := bits_shl (by have := K.le; omega)
  have r3 := packed_r3 f1 K [⟨w, true⟩]
  have f := few_v f1 K [⟨w, true⟩]
  have a := apt_v f1 K [⟨w, true⟩]
  rw [RV_nil] at hlo
  simp only [Int.natCast_zero] at hlo
  have l0 : ∀ s, lenL (IL false f1 1 s) = some s.length := fun _ => rfl
  simp (maxSteps := 1000000) only [law12_PostPacked, law12_PostPacked.B, beqT, beqF, exF_seq, exF_region, exF_block, exF_cond, exF_ret, exF_exit, exF_skip, runL, wantL, stepL, evL, evC, LEnv.at, putL, loadFine, loadL, cellsAt, Trk.putNew, Trk.up, Trk.touch, Trk.gives, Trk.calm, Trk.hit, opdsOf, Trk.fresh, LEnv.keep, LEnv.ofFrom, List.map_cons, List.map_nil, nbeq, nble, nblt, ofAV, ofAVs, bin_add, bin_sub, bin_mul, bin_eql, bin_neq, bin_lss, bin_leq, bin_gtr, bin_geq, natL_nat, natL_zero, natL_one, natL_two, Nat.zero_mul, List.any_cons, List.any_nil, Bool.or_false, Bool.false_or, Bool.true_or, Bool.or_true, Bool.and_true, Bool.true_and, Bool.and_false, Bool.false_and, Bool.not_true, Bool.not_false, Nat.reduceBEq, Nat.reduceEqDiff, decide_true, decide_false, cond_true, cond_false, List.filter_nil, List.filter_cons, Nat.reduceAdd, Nat.reduceLeDiff, reduceCtorEq, List.length_nil, List.length_cons, Nat.mul_one, if_true, if_false, Bool.false_eq_true, eq_self, and_true, true_and, retL, resultsL, resAllL, resOfL, List.append_nil, List.nil_append, List.cons_append, true_or, or_true, false_or, or_false, false_and, and_false, not_true_eq_false, not_false_eq_true, ne_eq, unL, trim_nil, views_pures, LV.pures, LV.pure, freeze, Nat.reduceDiv, Int.reduceEq, Int.reduceLT, Int.reduceLE, Int.natCast_zero, LV.cells, allocL, List.getElem?_cons_zero, List.getElem?_cons_succ, storeL, spliceL, List.take_zero, List.take_succ_cons, List.drop_zero, List.drop_succ_cons, List.drop_nil, List.take_nil, Nat.le_refl, Nat.reduceMul, List.set_cons_zero, List.set_cons_succ, LV.scalar, List.all_cons, List.all_nil, Nat.lt_add_one, Nat.zero_lt_one, Nat.reduceLT, Nat.lt_irrefl, fillL, List.length_append, foldIntL, kind_beq, pures_int, solids_int, plains_int, unders_int, scalars_int, hbl, htk, hm, hsh, hlo, f, a, r3, l0]
end Go.Am.Post


