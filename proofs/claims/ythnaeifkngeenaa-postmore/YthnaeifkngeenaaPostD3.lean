import Derived.Test.YthnaeifkngeenaaPostP8
import Derived.Test.YthnaeifkngeenaaLm14
import Derived.Test.YthnaeifkngeenaaPostC15
/-
  What functions of chapter 12 compute, outright 3: a shore made of numbers, and what posts cost.
-/
set_option linter.unusedVariables false
set_option linter.unusedSimpArgs false
set_option maxRecDepth 10000
namespace Go.Am.Post
open Go.Am.G

theorem views_both (k : Nat) (m : LMem) (a b a' b' : LV) (ids ids' : List Nat) (ha : ∀ k, view (k + 3) m a = some (a', ids)) (hb : ∀ k, view (k + 3) m b = some (b', ids')) (hn : LV.pures [a, b] = false) : viewL (k + 8) m [a, b] = some ([a', b'], ids ++ ids') := by
  rw [viewL.eq_def]
  simp only [hn, cond_false]
  rw [viewC.eq_def]
  simp only [ha]
  rw [viewC.eq_def]
  simp only [hb]
  rw [viewC.eq_def]
  simp
theorem view_both (m : LMem) (a b a' b' : LV) (ids ids' : List Nat) (ha : ∀ k, view (k + 3) m a = some (a', ids)) (hb : ∀ k, view (k + 3) m b = some (b', ids')) (hn : LV.pures [a, b] = false) : view 40 m (.tup [a, b]) = some (.tup [a', b'], ids ++ ids') := by
  rw [view.eq_def]
  simp only [views_both 31 m a b a' b' ids ids' ha hb hn]
theorem made_c (p : Nat) (hp : p < 256) (most : Nat) (h1 : 1 ≤ most) (h10 : most ≤ 10) (bs : List Nat) (hb10 : bs.length = 10) (hb : ∀ x ∈ bs, x < 256) :
    ∃ b d : Bool, ∀ m, clF LP n_law12_Coast_made [.agg (bys (p :: bs)), .int .i64 (most : Int)] m = some (.P, .tup [IL false b 1 (shoreN (1 + p % most) bs), .lst false d 1 (1 + p % most) (nats (handN (1 + p % most) bs))], m) := by
  have hk : p % most < most := Nat.mod_lt _ (by omega)
  have hw : IntKind.i64.wrap ((p : Nat) : Int) = ((p : Nat) : Int) := wrap_in (by omega)
  have hrem : binL .rem (.int .i64 ((p : Nat) : Int)) (.int .i64 (most : Int)) = some (.int .i64 ((p % most : Nat) : Int)) := by
    rw [bin_rem _ _ _ (show (most : Int) ≠ 0 by omega)]; rfl
  have hadd : IntKind.i64.wrap (1 + ((p % most : Nat) : Int)) = ((1 + p % most : Nat) : Int) := by
    rw [wrap_in (by omega)]; simp
  have hn10 : 1 + p % most ≤ 10 := by omega
  have hn1 : 1 ≤ 1 + p % most := by omega
  have hb0 : (bys (p :: bs))[0]? = some (.int .u8 ((p : Nat) : Int)) := rfl
  have hbl : (bys (p :: bs)).length = 11 := by simp [hb10]
  have hps : LV.pures (bys (p :: bs)) = true := pures_int _ _
  have hat : ∀ i, i < 10 → (bys (p :: bs))[1 + i]? = some (.int .u8 ((bs.getD i 0 : Nat) : Int)) := fun i hi => by
    rw [Nat.add_comm]
    have : i < bs.length := by omega
    simp [List.getD_eq_getElem?_getD, this]
  have hpu : ∀ l : List Nat, LV.pures (nats l) = true := pures_nats
  generalize bys (p :: bs) = w at *
  generalize 1 + p % most = n at *
  generalize p % most = q at *
  have hpure : LV.pures [LV.agg w, .int .i64 (most : Int)] = true := by simp only [LV.pures, LV.pure, hps, Bool.and_true]
  by_cases c : n = 1
  · subst c
    refine ⟨true, true, fun m => call_P lp_law12_Coast_made rfl hpure (m1 := [⟨w, true⟩]) ?_ (by simp [LV.pures, LV.pure]) m⟩
    have hlo : exF LP law12_Coast_made.L0 [(2, .ptr 0 0 11), (6, .int .i64 1), (7, .lst false true 1 1 [.int .i64 (-1)]), (8, .lst false true 1 1 [.int .u64 1]), (9, .int .i64 1)] [⟨w, true⟩] = some (.exit 0, [(7, .lst false true 1 1 [.int .i64 (-1)]), (8, .lst false true 1 1 [.int .u64 1])], [⟨w, true⟩]) := by
      rw [law12_Coast_made.L0_eq]
      simp only [law12_Coast_made.B0, beqT, beqF, exF_seq, exF_region, exF_block, exF_cond, exF_ret, exF_exit, exF_skip, runL, wantL, stepL, evL, LEnv.at, putL, loadFine, loadL, cellsAt, Trk.putNew, Trk.up, Trk.touch, Trk.gives, Trk.calm, Trk.hit, opdsOf, Trk.fresh, LEnv.keep, LEnv.ofFrom, List.map_cons, List.map_nil, nbeq, nble, nblt, ofAV, ofAVs, lenL, bin_add, bin_sub, bin_mul, bin_eql, bin_neq, bin_lss, bin_leq, bin_gtr, bin_geq, natL_nat, natL_zero, natL_one, natL_two, Nat.zero_mul, List.any_cons, List.any_nil, Bool.or_false, Bool.false_or, Bool.true_or, Bool.or_true, Bool.and_true, Bool.true_and, Bool.and_false, Bool.false_and, Bool.not_true, Bool.not_false, Nat.reduceBEq, Nat.reduceEqDiff, decide_true, decide_false, cond_true, cond_false, List.filter_nil, List.filter_cons, Nat.reduceAdd, Nat.reduceLeDiff, reduceCtorEq, List.length_nil, List.length_cons, Nat.mul_one, if_true, if_false, Bool.false_eq_true, eq_self, and_true, true_and, retL, resultsL, resAllL, resOfL, List.append_nil, List.nil_append, List.cons_append, true_or, or_true, false_or, or_false, false_and, and_false, not_true_eq_false, not_false_eq_true, ne_eq, unL, trim_nil, views_pures, LV.pures, LV.pure, freeze, Nat.reduceDiv, Int.reduceEq, Int.reduceLT, Int.reduceLE, Int.natCast_zero, LV.cells, allocL, List.getElem?_cons_zero, List.getElem?_cons_succ, storeL, spliceL, List.take_zero, List.take_succ_cons, List.drop_zero, List.drop_succ_cons, List.drop_nil, List.take_nil, Nat.le_refl, Nat.reduceMul, List.set_cons_zero, List.set_cons_succ, LV.scalar, List.all_cons, List.all_nil, Nat.lt_add_one, Nat.zero_lt_one, Nat.reduceLT, Nat.lt_irrefl, fillL, List.length_append, foldIntL, kind_beq, pures_int, solids_int, plains_int, unders_int, scalars_int]
    have hadd : IntKind.i64.wrap (1 + (q : Int)) = 1 := hadd
    simp only [law12_Coast_made, law12_Coast_made.B, beqT, beqF, exF_seq, exF_region, exF_block, exF_cond, exF_ret, exF_exit, exF_skip, runL, wantL, stepL, evL, LEnv.at, putL, loadFine, loadL, cellsAt, Trk.putNew, Trk.up, Trk.touch, Trk.gives, Trk.calm, Trk.hit, opdsOf, Trk.fresh, LEnv.keep, LEnv.ofFrom, List.map_cons, List.map_nil, nbeq, nble, nblt, ofAV, ofAVs, lenL, bin_add, bin_sub, bin_mul, bin_eql, bin_neq, bin_lss, bin_leq, bin_gtr, bin_geq, natL_nat, natL_zero, natL_one, natL_two, Nat.zero_mul, List.any_cons, List.any_nil, Bool.or_false, Bool.false_or, Bool.true_or, Bool.or_true, Bool.and_true, Bool.true_and, Bool.and_false, Bool.false_and, Bool.not_true, Bool.not_false, Nat.reduceBEq, Nat.reduceEqDiff, decide_true, decide_false, cond_true, cond_false, List.filter_nil, List.filter_cons, Nat.reduceAdd, Nat.reduceLeDiff, reduceCtorEq, List.length_nil, List.length_cons, Nat.mul_one, if_true, if_false, Bool.false_eq_true, eq_self, and_true, true_and, retL, resultsL, resAllL, resOfL, List.append_nil, List.nil_append, List.cons_append, true_or, or_true, false_or, or_false, false_and, and_false, not_true_eq_false, not_false_eq_true, ne_eq, unL, trim_nil, views_pures, LV.pures, LV.pure, freeze, Nat.reduceDiv, Int.reduceEq, Int.reduceLT, Int.reduceLE, Int.natCast_zero, LV.cells, allocL, List.getElem?_cons_zero, List.getElem?_cons_succ, storeL, spliceL, List.take_zero, List.take_succ_cons, List.drop_zero, List.drop_succ_cons, List.drop_nil, List.take_nil, Nat.le_refl, Nat.reduceMul, List.set_cons_zero, List.set_cons_succ, LV.scalar, List.all_cons, List.all_nil, Nat.lt_add_one, Nat.zero_lt_one, Nat.reduceLT, Nat.lt_irrefl, fillL, List.length_append, foldIntL, kind_beq, pures_int, solids_int, plains_int, unders_int, scalars_int, hbl, hb0, hw, hrem, hadd, hlo]
    rfl
  · have hx := hat 1 (by omega)
    have hlo := coast_loop bs hb10 hb w rfl n hn10 hbl hat (n - 2) 2 [-1, 0] (hset [1, 3] 0 1) (by omega) (by omega) rfl (by simp [hset]) (hset_small (fun i => by
      match i with
      | 0 => decide
      | 1 => decide
      | i + 2 => simp) 0 (by omega))
    have es : shN bs (n - 2) 2 [-1, 0] = shoreN n bs := by
      rw [shoreN, show n - 1 = (n - 2) + 1 by omega, shN]
      simp [Nat.mod_one]
    have eh : haN bs (n - 2) 2 (hset [1, 3] 0 1) = handN n bs := by
      rw [handN, show n - 1 = (n - 2) + 1 by omega, haN]
      simp [Nat.mod_one]
    rw [es, eh] at hlo
    have hsl : (shoreN n bs).length = n := (shoreN_ok n hn1 hn10 bs).2
    have hhl : (handN n bs).length = n := by rw [handN, haN_len]; simp; omega
    generalize shoreN n bs = s at *
    generalize handN n bs = h at *
    have v1 : ∀ k, view (k + 3) [⟨w, true⟩, ⟨ints s, true⟩, ⟨nats h, true⟩] (.sl 1 0 n n 1 1 n) = some (IL false false 1 s, [1]) := fun k => by
      have := view_sl k [⟨w, true⟩, ⟨ints s, true⟩, ⟨nats h, true⟩] 1 0 n n 1 s true rfl hsl (by omega) n (Nat.le_refl _)
      rw [List.drop_zero, List.take_of_length_le (by omega)] at this
      rw [this]
      simp [nbeq]
    have v2 : ∀ k, view (k + 3) [⟨w, true⟩, ⟨ints s, true⟩, ⟨nats h, true⟩] (.sl 2 0 n n 1 1 n) = some (.lst false false 1 n (nats h), [2]) := fun k => by
      have := view_slc k [⟨w, true⟩, ⟨ints s, true⟩, ⟨nats h, true⟩] 2 0 n n 1 n 1 (nats h) true rfl (by rw [List.drop_zero, List.take_of_length_le (by simp [hhl])]; exact hpu h) (by simp [hhl]) (by omega) (Nat.le_refl _)
      rw [List.drop_zero, List.take_of_length_le (by simp [hhl])] at this
      rw [this]
      simp [nbeq]
    have hv := view_both [⟨w, true⟩, ⟨ints s, true⟩, ⟨nats h, true⟩] _ _ _ _ _ _ v1 v2 (by simp [LV.pures, LV.pure])
    refine ⟨false, false, fun m => call_Pv lp_law12_Coast_made rfl hpure ?_ hv m⟩
    have a1 := app_lit [⟨w, true⟩] (.int .i64 0) (.int .i64 (-1)) rfl
    have a2 := app_lit [⟨w, true⟩, ⟨[.int .i64 (-1), .int .i64 0], true⟩] (.int .u64 3) (.int .u64 1) rfl
    have hx1 : bs.getD 1 0 < 256 := by
      rw [List.getD_eq_getElem?_getD, List.getElem?_eq_getElem (by omega)]
      exact hb _ (List.getElem_mem _)
    have hwr : IntKind.i64.wrap ((bs.getD 1 0 : Nat) : Int) = ((bs.getD 1 0 : Nat) : Int) := wrap_in (by omega)
    have hrm : binL .rem (.int .i64 ((bs.getD 1 0 : Nat) : Int)) (.int .i64 1) = some (.int .i64 0) := by
      rw [bin_rem _ _ _ (show (1 : Int) ≠ 0 by omega), Int.tmod_one]
    have s1 : binL .shl (.int .u64 1) (.int .i64 1) = some (.int .u64 2) := bits_shl (i := 1) (by omega)
    have s0 : binL .shl (.int .u64 1) (.int .i64 0) = some (.int .u64 1) := bits_shl (i := 0) (by omega)
    have o1 : binL .or (.int .u64 2) (.int .u64 1) = some (.int .u64 3) := bits_or (a := 2) (b := 1) (by omega) (by omega)
    have o2 : binL .or (.int .u64 1) (.int .u64 2) = some (.int .u64 3) := bits_or (a := 1) (b := 2) (by omega) (by omega)
    have hlo : exF LP law12_Coast_made.L0 [(2, .ptr 0 0 11), (6, .int .i64 (n : Int)), (7, .sl 1 0 2 2 1 1 2), (8, .sl 2 0 2 2 1 1 2), (9, .int .i64 2)] [⟨w, true⟩, ⟨[.int .i64 (-1), .int .i64 0], true⟩, ⟨[.int .u64 3, .int .u64 3], true⟩] = some (.exit 0, [(7, .sl 1 0 n n 1 1 n), (8, .sl 2 0 n n 1 1 n)], [⟨w, true⟩, ⟨ints s, true⟩, ⟨nats h, true⟩]) := hlo
    have hl1 : exF LP law12_Coast_made.L0 [(2, .ptr 0 0 11), (6, .int .i64 (n : Int)), (7, .lst false true 1 1 [.int .i64 (-1)]), (8, .lst false true 1 1 [.int .u64 1]), (9, .int .i64 1)] [⟨w, true⟩] = some (.exit 0, [(7, .sl 1 0 n n 1 1 n), (8, .sl 2 0 n n 1 1 n)], [⟨w, true⟩, ⟨ints s, true⟩, ⟨nats h, true⟩]) := by
      have hx : w[2]? = _ := hx
      simp only [List.length_cons, List.length_nil, Nat.zero_add, Nat.reduceAdd, List.cons_append, List.nil_append] at a1 a2
      rw [law12_Coast_made.L0_eq]
      simp only [law12_Coast_made.B0, beqT, beqF, exF_seq, exF_region, exF_block, exF_cond, exF_ret, exF_exit, exF_skip, runL, wantL, stepL, evL, LEnv.at, putL, loadFine, loadL, cellsAt, Trk.putNew, Trk.up, Trk.touch, Trk.gives, Trk.calm, Trk.hit, opdsOf, Trk.fresh, LEnv.keep, LEnv.ofFrom, List.map_cons, List.map_nil, nbeq, nble, nblt, ofAV, ofAVs, lenL, bin_add, bin_sub, bin_mul, bin_eql, bin_neq, bin_lss, bin_leq, bin_gtr, bin_geq, natL_nat, natL_zero, natL_one, natL_two, Nat.zero_mul, List.any_cons, List.any_nil, Bool.or_false, Bool.false_or, Bool.true_or, Bool.or_true, Bool.and_true, Bool.true_and, Bool.and_false, Bool.false_and, Bool.not_true, Bool.not_false, Nat.reduceBEq, Nat.reduceEqDiff, decide_true, decide_false, cond_true, cond_false, List.filter_nil, List.filter_cons, Nat.reduceAdd, Nat.reduceLeDiff, reduceCtorEq, List.length_nil, List.length_cons, Nat.mul_one, if_true, if_false, Bool.false_eq_true, eq_self, and_true, true_and, retL, resultsL, resAllL, resOfL, List.append_nil, List.nil_append, List.cons_append, true_or, or_true, false_or, or_false, false_and, and_false, not_true_eq_false, not_false_eq_true, ne_eq, unL, trim_nil, views_pures, LV.pures, LV.pure, freeze, Nat.reduceDiv, Int.reduceEq, Int.reduceLT, Int.reduceLE, Int.natCast_zero, LV.cells, allocL, List.getElem?_cons_zero, List.getElem?_cons_succ, storeL, spliceL, List.take_zero, List.take_succ_cons, List.drop_zero, List.drop_succ_cons, List.drop_nil, List.take_nil, Nat.le_refl, Nat.reduceMul, List.set_cons_zero, List.set_cons_succ, LV.scalar, List.all_cons, List.all_nil, Nat.lt_add_one, Nat.zero_lt_one, Nat.reduceLT, Nat.lt_irrefl, fillL, List.length_append, foldIntL, kind_beq, pures_int, solids_int, plains_int, unders_int, scalars_int, show ((1 : Int) < (n : Int)) by omega, hbl, hx, hwr, hrm, a1, s1, s0, o1, a2, o2, show IntKind.i64.wrap ((1 : Int) + 1) = 2 from rfl, hlo]
    simp only [law12_Coast_made, law12_Coast_made.B, beqT, beqF, exF_seq, exF_region, exF_block, exF_cond, exF_ret, exF_exit, exF_skip, runL, wantL, stepL, evL, LEnv.at, putL, loadFine, loadL, cellsAt, Trk.putNew, Trk.up, Trk.touch, Trk.gives, Trk.calm, Trk.hit, opdsOf, Trk.fresh, LEnv.keep, LEnv.ofFrom, List.map_cons, List.map_nil, nbeq, nble, nblt, ofAV, ofAVs, lenL, bin_add, bin_sub, bin_mul, bin_eql, bin_neq, bin_lss, bin_leq, bin_gtr, bin_geq, natL_nat, natL_zero, natL_one, natL_two, Nat.zero_mul, List.any_cons, List.any_nil, Bool.or_false, Bool.false_or, Bool.true_or, Bool.or_true, Bool.and_true, Bool.true_and, Bool.and_false, Bool.false_and, Bool.not_true, Bool.not_false, Nat.reduceBEq, Nat.reduceEqDiff, decide_true, decide_false, cond_true, cond_false, List.filter_nil, List.filter_cons, Nat.reduceAdd, Nat.reduceLeDiff, reduceCtorEq, List.length_nil, List.length_cons, Nat.mul_one, if_true, if_false, Bool.false_eq_true, eq_self, and_true, true_and, retL, resultsL, resAllL, resOfL, List.append_nil, List.nil_append, List.cons_append, true_or, or_true, false_or, or_false, false_and, and_false, not_true_eq_false, not_false_eq_true, ne_eq, unL, trim_nil, views_pures, LV.pures, LV.pure, freeze, Nat.reduceDiv, Int.reduceEq, Int.reduceLT, Int.reduceLE, Int.natCast_zero, LV.cells, allocL, List.getElem?_cons_zero, List.getElem?_cons_succ, storeL, spliceL, List.take_zero, List.take_succ_cons, List.drop_zero, List.drop_succ_cons, List.drop_nil, List.take_nil, Nat.le_refl, Nat.reduceMul, List.set_cons_zero, List.set_cons_succ, LV.scalar, List.all_cons, List.all_nil, Nat.lt_add_one, Nat.zero_lt_one, Nat.reduceLT, Nat.lt_irrefl, fillL, List.length_append, foldIntL, kind_beq, pures_int, solids_int, plains_int, unders_int, scalars_int, hbl, hb0, hw, hrem, hadd, hl1]

/-! ### What posts cost -/
theorem cost_loop (a b : Bool) (P : List Int) (x : LV) (l : List Nat) (c d : Bool) (sz : Nat) (hP : ∀ y ∈ P, 0 ≤ y ∧ y ≤ 20) (hl : ∀ y ∈ l, y < P.length) (h10 : l.length ≤ 1000) (n : Nat) : ∀ (k : Nat) (z : Nat), k + n = l.length → z ≤ 20 * k →
    exF LP law12_PostMore_1.L0 [(0, IL a b 1 P), (5, .int .i64 (z : Int)), (8, IL c d sz (ci l)), (9, .int .i64 (l.length : Int)), (10, .int .i64 (k : Int))] [] = some (.exit 0, [(5, .int .i64 ((z + cost (prC P) (l.drop k) : Nat) : Int))], []) := by
  induction n with
  | zero =>
    intro k z hk hz
    rw [law12_PostMore_1.L0_eq, List.drop_eq_nil_of_le (show l.length ≤ k by omega)]
    simp only [law12_PostMore_1.B0, beqT, beqF, exF_seq, exF_region, exF_block, exF_cond, exF_ret, exF_exit, exF_skip, runL, wantL, stepL, evL, LEnv.at, putL, loadFine, loadL, cellsAt, Trk.putNew, Trk.up, Trk.touch, Trk.gives, Trk.calm, Trk.hit, opdsOf, Trk.fresh, LEnv.keep, LEnv.ofFrom, List.map_cons, List.map_nil, nbeq, nble, nblt, ofAV, ofAVs, lenL, bin_add, bin_sub, bin_mul, bin_eql, bin_neq, bin_lss, bin_leq, bin_gtr, bin_geq, natL_nat, natL_zero, natL_one, natL_two, Nat.zero_mul, List.any_cons, List.any_nil, Bool.or_false, Bool.false_or, Bool.true_or, Bool.or_true, Bool.and_true, Bool.true_and, Bool.and_false, Bool.false_and, Bool.not_true, Bool.not_false, Nat.reduceBEq, Nat.reduceEqDiff, decide_true, decide_false, cond_true, cond_false, List.filter_nil, List.filter_cons, Nat.reduceAdd, Nat.reduceLeDiff, reduceCtorEq, List.length_nil, List.length_cons, Nat.mul_one, if_true, if_false, Bool.false_eq_true, eq_self, and_true, true_and, retL, resultsL, resAllL, resOfL, List.append_nil, List.nil_append, List.cons_append, true_or, or_true, false_or, or_false, false_and, and_false, not_true_eq_false, not_false_eq_true, ne_eq, unL, trim_nil, views_pures, LV.pures, LV.pure, freeze, Nat.reduceDiv, Int.reduceEq, Int.reduceLT, Int.reduceLE, Int.natCast_zero, LV.cells, allocL, List.getElem?_cons_zero, List.getElem?_cons_succ, storeL, spliceL, List.take_zero, List.take_succ_cons, List.drop_zero, List.drop_succ_cons, List.drop_nil, List.take_nil, Nat.le_refl, Nat.reduceMul, List.set_cons_zero, List.set_cons_succ, LV.scalar, List.all_cons, List.all_nil, Nat.lt_add_one, Nat.zero_lt_one, Nat.reduceLT, Nat.lt_irrefl, fillL, List.length_append, foldIntL, kind_beq, pures_int, solids_int, plains_int, unders_int, scalars_int, show ¬ ((k : Int) < (l.length : Int)) by omega]
    rfl
  | succ n ih =>
    intro k z hk hz
    have h2 : k < l.length := by omega
    have h3 := hl _ (List.getElem_mem h2)
    have hp := hP _ (List.getElem_mem h3)
    have e : P[l[k]] = ((prC P l[k] : Nat) : Int) := by
      rw [prC, List.getD_eq_getElem?_getD, List.getElem?_eq_getElem h3]
      simp; omega
    have hle : prC P l[k] ≤ 20 := by omega
    have ih := ih (k + 1) (z + prC P l[k]) (by omega) (by omega)
    have ec : cost (prC P) (l.drop k) = prC P l[k] + cost (prC P) (l.drop (k + 1)) := by
      rw [List.drop_eq_getElem_cons h2, cost, List.map_cons, List.sum_cons]; rfl
    have c1 : ((ci l).map (LV.int .i64))[k]? = some (.int .i64 ((l[k] : Nat) : Int)) := by simp [h2]
    have c2 : (P.map (LV.int .i64))[l[k]]? = some (.int .i64 ((prC P l[k] : Nat) : Int)) := by rw [int_at _ _ _ h3, e]
    have hll := ci_ln l
    have w1 : IntKind.i64.wrap ((z : Int) + ((prC P l[k] : Nat) : Int)) = ((z + prC P l[k] : Nat) : Int) := by rw [wrap_in (by omega)]; simp
    rw [law12_PostMore_1.L0_eq, ec, ← Nat.add_assoc]
    generalize cost (prC P) (l.drop (k + 1)) = cc at *
    generalize prC P l[k] = pp at *
    generalize ci l = cl at *
    have hn1 : ¬ ((l[k] : Nat) : Int) < 0 := by omega
    have hn2 : ¬ ((P.length : Int) ≤ ((l[k] : Nat) : Int)) := by omega
    generalize l[k] = y at *
    simp only [law12_PostMore_1.B0, beqT, beqF, exF_seq, exF_region, exF_block, exF_cond, exF_ret, exF_exit, exF_skip, runL, wantL, stepL, evL, LEnv.at, putL, loadFine, loadL, cellsAt, Trk.putNew, Trk.up, Trk.touch, Trk.gives, Trk.calm, Trk.hit, opdsOf, Trk.fresh, LEnv.keep, LEnv.ofFrom, List.map_cons, List.map_nil, nbeq, nble, nblt, ofAV, ofAVs, lenL, bin_add, bin_sub, bin_mul, bin_eql, bin_neq, bin_lss, bin_leq, bin_gtr, bin_geq, natL_nat, natL_zero, natL_one, natL_two, Nat.zero_mul, List.any_cons, List.any_nil, Bool.or_false, Bool.false_or, Bool.true_or, Bool.or_true, Bool.and_true, Bool.true_and, Bool.and_false, Bool.false_and, Bool.not_true, Bool.not_false, Nat.reduceBEq, Nat.reduceEqDiff, decide_true, decide_false, cond_true, cond_false, List.filter_nil, List.filter_cons, Nat.reduceAdd, Nat.reduceLeDiff, reduceCtorEq, List.length_nil, List.length_cons, Nat.mul_one, if_true, if_false, Bool.false_eq_true, eq_self, and_true, true_and, retL, resultsL, resAllL, resOfL, List.append_nil, List.nil_append, List.cons_append, true_or, or_true, false_or, or_false, false_and, and_false, not_true_eq_false, not_false_eq_true, ne_eq, unL, trim_nil, views_pures, LV.pures, LV.pure, freeze, Nat.reduceDiv, Int.reduceEq, Int.reduceLT, Int.reduceLE, Int.natCast_zero, LV.cells, allocL, List.getElem?_cons_zero, List.getElem?_cons_succ, storeL, spliceL, List.take_zero, List.take_succ_cons, List.drop_zero, List.drop_succ_cons, List.drop_nil, List.take_nil, Nat.le_refl, Nat.reduceMul, List.set_cons_zero, List.set_cons_succ, LV.scalar, List.all_cons, List.all_nil, Nat.lt_add_one, Nat.zero_lt_one, Nat.reduceLT, Nat.lt_irrefl, fillL, List.length_append, foldIntL, kind_beq, pures_int, solids_int, plains_int, unders_int, scalars_int, show ((k : Int) < (l.length : Int)) by omega, hll, h2, c1, hn1, hn2, h3, c2, w1, wrap_succ (show k + 1 < 9223372036854775808 by omega), ih]
theorem cost_c (a b : Bool) (P : List Int) (l : List Nat) (c d : Bool) (sz : Nat) (hP : ∀ y ∈ P, 0 ≤ y ∧ y ≤ 20) (hl : ∀ y ∈ l, y < P.length) (h10 : l.length ≤ 1000) (m : LMem) : clF LP n_law12_PostMore_1 [IL a b 1 P, IL c d sz (ci l)] m = some (.P, .int .i64 (cost (prC P) l : Int), m) := by
  have h := cost_loop a b P .undef l c d sz hP hl h10 l.length 0 0 (by omega) (by omega)
  rw [List.drop_zero, Nat.zero_add] at h
  simp only [Int.natCast_zero] at h
  have hll := ci_ln l
  refine call_P lp_law12_PostMore_1 rfl (by simp [LV.pures, LV.pure]) (m1 := []) ?_ rfl m
  generalize ci l = cl at *
  simp only [law12_PostMore_1, law12_PostMore_1.B, beqT, beqF, exF_seq, exF_region, exF_block, exF_cond, exF_ret, exF_exit, exF_skip, runL, wantL, stepL, evL, LEnv.at, putL, loadFine, loadL, cellsAt, Trk.putNew, Trk.up, Trk.touch, Trk.gives, Trk.calm, Trk.hit, opdsOf, Trk.fresh, LEnv.keep, LEnv.ofFrom, List.map_cons, List.map_nil, nbeq, nble, nblt, ofAV, ofAVs, lenL, bin_add, bin_sub, bin_mul, bin_eql, bin_neq, bin_lss, bin_leq, bin_gtr, bin_geq, natL_nat, natL_zero, natL_one, natL_two, Nat.zero_mul, List.any_cons, List.any_nil, Bool.or_false, Bool.false_or, Bool.true_or, Bool.or_true, Bool.and_true, Bool.true_and, Bool.and_false, Bool.false_and, Bool.not_true, Bool.not_false, Nat.reduceBEq, Nat.reduceEqDiff, decide_true, decide_false, cond_true, cond_false, List.filter_nil, List.filter_cons, Nat.reduceAdd, Nat.reduceLeDiff, reduceCtorEq, List.length_nil, List.length_cons, Nat.mul_one, if_true, if_false, Bool.false_eq_true, eq_self, and_true, true_and, retL, resultsL, resAllL, resOfL, List.append_nil, List.nil_append, List.cons_append, true_or, or_true, false_or, or_false, false_and, and_false, not_true_eq_false, not_false_eq_true, ne_eq, unL, trim_nil, views_pures, LV.pures, LV.pure, freeze, Nat.reduceDiv, Int.reduceEq, Int.reduceLT, Int.reduceLE, Int.natCast_zero, LV.cells, allocL, List.getElem?_cons_zero, List.getElem?_cons_succ, storeL, spliceL, List.take_zero, List.take_succ_cons, List.drop_zero, List.drop_succ_cons, List.drop_nil, List.take_nil, Nat.le_refl, Nat.reduceMul, List.set_cons_zero, List.set_cons_succ, LV.scalar, List.all_cons, List.all_nil, Nat.lt_add_one, Nat.zero_lt_one, Nat.reduceLT, Nat.lt_irrefl, fillL, List.length_append, foldIntL, kind_beq, pures_int, solids_int, plains_int, unders_int, scalars_int, hll, h]
end Go.Am.Post

/-
  What functions of chapter 12 compute, outright 4: the law 'PostMore'.
-/
set_option linter.unusedVariables false
set_option linter.unusedSimpArgs false
set_option maxRecDepth 10000
set_option maxHeartbeats 2000000
namespace Go.Am.Post
open Go.Am.G

theorem call_sh {C : LProg} {f : Nat} {lf : LFunc} (hC : C f = some lf) (hm : lf.mode = .P) {args vs : List LV} {ids : List Nat} {m : LMem} (hv : views m args = some (vs, ids)) (hp : LV.pures vs = true) {v : LV} (hc : clF C f vs [] = some (.P, v, [])) : clF C f args m = some (.P, v, m) ∨ clF C f args m = some (.P, v, freeze ids m) := by
  rw [clF_eq, hC] at hc ⊢
  simp only [callMode, hm, views_pures [] vs hp, hv] at hc ⊢
  split at hc
  · rename_i v1 m1 hr
    split at hc
    · rename_i v2 ids1 hv2
      simp only [Option.some.injEq, Prod.mk.injEq] at hc
      obtain ⟨_, rfl, _⟩ := hc
      cases (ids.isEmpty || (v2.plain || newIds v1 m1 ids1))
      · exact .inr rfl
      · exact .inl rfl
    · cases hc
  · cases hc
theorem view_at {m : LMem} {b n : Nat} {l : List Int} {o : Bool} (hn : l.length = n) (h : m[b]? = some ⟨ints l, o⟩) : ∀ k, view (k + 3) m (.sl b 0 n n 1 1 n) = some (IL false false 1 l, [b]) := fun k => by
  have := view_sl k m b 0 n n 1 l o h hn (by omega) n (Nat.le_refl _)
  rw [List.drop_zero, List.take_of_length_le (by omega)] at this
  rw [this]
  simp [nbeq]
theorem clone_p (nl ex : Bool) (l : List Int) (hl : l.length < 1000000) (hne : l ≠ []) (hnl : nl = false) (m : LMem) : clF LP n_slices_Clone_int_int [IL nl ex 1 l] m = some (.O, .sl m.length 0 l.length l.length 1 1 l.length, m ++ [⟨l.map (LV.int .i64), true⟩]) := by
  subst hnl
  have h0 : ¬ l.length = 0 := by simpa using hne
  have hr1 : l.length * 8 ≤ roomMost := by unfold roomMost; omega
  have hr2 : l.length ≤ roomMost := by unfold roomMost; omega
  rw [clF_eq, lp_slices_Clone_int_int]
  simp only [callMode, slices_Clone_int_int, views_pures m [IL false ex 1 l] (by simp [LV.pures, LV.pure])]
  simp only [slices_Clone_int_int.B, beqT, beqF, exF_seq, exF_region, exF_block, exF_cond, exF_ret, exF_exit, exF_skip, runL, wantL, stepL, evL, LEnv.at, putL, loadFine, loadL, cellsAt, Trk.putNew, Trk.up, Trk.touch, Trk.gives, Trk.calm, Trk.hit, opdsOf, Trk.fresh, LEnv.keep, LEnv.ofFrom, List.map_cons, List.map_nil, nbeq, nble, nblt, ofAV, ofAVs, lenL, bin_add, bin_sub, bin_mul, bin_eql, bin_neq, bin_lss, bin_leq, bin_gtr, bin_geq, natL_nat, natL_zero, natL_one, natL_two, Nat.zero_mul, List.any_cons, List.any_nil, Bool.or_false, Bool.false_or, Bool.true_or, Bool.or_true, Bool.and_true, Bool.true_and, Bool.and_false, Bool.false_and, Bool.not_true, Bool.not_false, Nat.reduceBEq, Nat.reduceEqDiff, decide_true, decide_false, cond_true, cond_false, List.filter_nil, List.filter_cons, Nat.reduceAdd, Nat.reduceLeDiff, reduceCtorEq, List.length_nil, List.length_cons, Nat.mul_one, if_true, if_false, Bool.false_eq_true, eq_self, and_true, true_and, retL, resultsL, resAllL, resOfL, List.append_nil, List.nil_append, List.cons_append, true_or, or_true, false_or, or_false, false_and, and_false, not_true_eq_false, not_false_eq_true, ne_eq, unL, trim_nil, views_pures, LV.pures, LV.pure, freeze, Nat.reduceDiv, Int.reduceEq, Int.reduceLT, Int.reduceLE, Int.natCast_zero, LV.cells, allocL, List.getElem?_cons_zero, List.getElem?_cons_succ, storeL, spliceL, List.take_zero, List.take_succ_cons, List.drop_zero, List.drop_succ_cons, List.drop_nil, List.take_nil, Nat.le_refl, Nat.reduceMul, List.set_cons_zero, List.set_cons_succ, LV.scalar, List.all_cons, List.all_nil, Nat.lt_add_one, Nat.zero_lt_one, Nat.reduceLT, Nat.lt_irrefl, fillL, List.length_append, foldIntL, kind_beq, pures_int, solids_int, plains_int, unders_int, scalars_int, nilOf, eqsL, Bool.xor_false, Bool.false_xor, Bool.xor_true, LV.shift, newOnly, LV.solid, freeze, appendL, contents, views, viewL, h0, hr1, hr2, newSl, Nat.zero_add, shifts_int, hne]
theorem clone_m {args : List LV} {ids : List Nat} {m : LMem} (l : List Int) (hl : l.length < 1000000) (hne : l ≠ []) (hv : views m args = some ([IL false false 1 l], ids)) : clF LP n_slices_Clone_int_int args m = some (.O, .sl m.length 0 l.length l.length 1 1 l.length, m ++ [⟨l.map (LV.int .i64), true⟩]) := by
  have h0 : ¬ l.length = 0 := by simpa using hne
  have hr1 : l.length * 8 ≤ roomMost := by unfold roomMost; omega
  have hr2 : l.length ≤ roomMost := by unfold roomMost; omega
  rw [clF_eq, lp_slices_Clone_int_int]
  simp only [callMode, slices_Clone_int_int, hv]
  simp only [slices_Clone_int_int.B, beqT, beqF, exF_seq, exF_region, exF_block, exF_cond, exF_ret, exF_exit, exF_skip, runL, wantL, stepL, evL, LEnv.at, putL, loadFine, loadL, cellsAt, Trk.putNew, Trk.up, Trk.touch, Trk.gives, Trk.calm, Trk.hit, opdsOf, Trk.fresh, LEnv.keep, LEnv.ofFrom, List.map_cons, List.map_nil, nbeq, nble, nblt, ofAV, ofAVs, lenL, bin_add, bin_sub, bin_mul, bin_eql, bin_neq, bin_lss, bin_leq, bin_gtr, bin_geq, natL_nat, natL_zero, natL_one, natL_two, Nat.zero_mul, List.any_cons, List.any_nil, Bool.or_false, Bool.false_or, Bool.true_or, Bool.or_true, Bool.and_true, Bool.true_and, Bool.and_false, Bool.false_and, Bool.not_true, Bool.not_false, Nat.reduceBEq, Nat.reduceEqDiff, decide_true, decide_false, cond_true, cond_false, List.filter_nil, List.filter_cons, Nat.reduceAdd, Nat.reduceLeDiff, reduceCtorEq, List.length_nil, List.length_cons, Nat.mul_one, if_true, if_false, Bool.false_eq_true, eq_self, and_true, true_and, retL, resultsL, resAllL, resOfL, List.append_nil, List.nil_append, List.cons_append, true_or, or_true, false_or, or_false, false_and, and_false, not_true_eq_false, not_false_eq_true, ne_eq, unL, trim_nil, views_pures, LV.pures, LV.pure, freeze, Nat.reduceDiv, Int.reduceEq, Int.reduceLT, Int.reduceLE, Int.natCast_zero, LV.cells, allocL, List.getElem?_cons_zero, List.getElem?_cons_succ, storeL, spliceL, List.take_zero, List.take_succ_cons, List.drop_zero, List.drop_succ_cons, List.drop_nil, List.take_nil, Nat.le_refl, Nat.reduceMul, List.set_cons_zero, List.set_cons_succ, LV.scalar, List.all_cons, List.all_nil, Nat.lt_add_one, Nat.zero_lt_one, Nat.reduceLT, Nat.lt_irrefl, fillL, List.length_append, foldIntL, kind_beq, pures_int, solids_int, plains_int, unders_int, scalars_int, nilOf, eqsL, Bool.xor_false, Bool.false_xor, Bool.xor_true, LV.shift, newOnly, LV.solid, appendL, contents, views, viewL, h0, hr1, hr2, newSl, Nat.zero_add, shifts_int, hne]

abbrev MM (w11 w10 : List LV) (more : List Int) (o : Bool) : LMem := [⟨w11, true⟩, ⟨w10, true⟩, ⟨ints more, o⟩]
theorem few_m (w11 w10 : List LV) {s : List Int} (K : OkS s) (o : Bool) : ∃ o', clF LP n_post_Fewest [.sl 2 0 s.length s.length 1 1 s.length] (MM w11 w10 s o) = some (.P, .tup [RLn (firstS s (fun _ => 1)), .int .i64 0], MM w11 w10 s o') := by
  have hv := views_one 32 (MM w11 w10 s o) _ _ _ (view_at (m := MM w11 w10 s o) (b := 2) rfl rfl) (by simp [LV.pures, LV.pure])
  have hc := fewestP_c false false 1 s (by have := K.le; omega) []
  rw [fewV, K.chk, if_pos rfl] at hc
  rcases call_sh lp_post_Fewest rfl hv (by simp [LV.pures, LV.pure]) hc with h | h
  · exact ⟨o, h⟩
  · exact ⟨false, h⟩
theorem apt_m (w11 w10 : List LV) {s : List Int} (K : OkS s) (o : Bool) : ∃ o', clF LP n_post_Apart [.sl 2 0 s.length s.length 1 1 s.length] (MM w11 w10 s o) = some (.P, .tup [RLn (grM (hd s) s.length 0 0), .int .i64 0], MM w11 w10 s o') := by
  have hv := views_one 32 (MM w11 w10 s o) _ _ _ (view_at (m := MM w11 w10 s o) (b := 2) rfl rfl) (by simp [LV.pures, LV.pure])
  have hc := apartP_c false false 1 s (by have := K.le; omega) []
  rw [aptV, K.chk, if_pos rfl] at hc
  rcases call_sh lp_post_Apart rfl hv (by simp [LV.pures, LV.pure]) hc with h | h
  · exact ⟨o, h⟩
  · exact ⟨false, h⟩
/-- The prices. -/
def priceL (k : Nat) (cs : List Nat) : List Int := (List.range k).map fun i => ((2 + cs.getD i 0 % 19 : Nat) : Int)
theorem priceL_len (k : Nat) (cs : List Nat) : (priceL k cs).length = k := by simp [priceL]
theorem priceL_succ (k : Nat) (cs : List Nat) : priceL (k + 1) cs = priceL k cs ++ [((2 + cs.getD k 0 % 19 : Nat) : Int)] := by simp [priceL, List.range_succ]
theorem price_loop (cs : List Nat) (hc10 : cs.length = 10) (hcb : ∀ x ∈ cs, x < 256) (v1 v7 v10 : LV) (n : Nat) (hn : n ≤ 10) (pre : LMem) (w10 : List LV) (hpre : pre.length = 3) (hg : pre[1]? = some ⟨bys cs, true⟩) (d : Nat) : ∀ (k : Nat), k + d = n →
    exF LP law12_PostMore.L0 [(1, v1), (5, .ptr 1 0 10), (7, v7), (10, v10), (16, GV 3 (priceL k cs)), (87, .int .i64 (n : Int)), (88, .int .i64 (k : Int))] (pre ++ GM (priceL k cs)) = some (.exit 0, [(1, v1), (7, v7), (10, v10), (16, GV 3 (priceL n cs))], pre ++ GM (priceL n cs)) := by
  induction d with
  | zero =>
    intro k hk
    obtain rfl : k = n := by omega
    rw [law12_PostMore.L0_eq]
    simp only [law12_PostMore.B0, beqT, beqF, exF_seq, exF_region, exF_block, exF_cond, exF_ret, exF_exit, exF_skip, runL, wantL, stepL, evL, LEnv.at, putL, loadFine, loadL, cellsAt, Trk.putNew, Trk.up, Trk.touch, Trk.gives, Trk.calm, Trk.hit, opdsOf, Trk.fresh, LEnv.keep, LEnv.ofFrom, List.map_cons, List.map_nil, nbeq, nble, nblt, ofAV, ofAVs, lenL, bin_add, bin_sub, bin_mul, bin_eql, bin_neq, bin_lss, bin_leq, bin_gtr, bin_geq, natL_nat, natL_zero, natL_one, natL_two, Nat.zero_mul, List.any_cons, List.any_nil, Bool.or_false, Bool.false_or, Bool.true_or, Bool.or_true, Bool.and_true, Bool.true_and, Bool.and_false, Bool.false_and, Bool.not_true, Bool.not_false, Nat.reduceBEq, Nat.reduceEqDiff, decide_true, decide_false, cond_true, cond_false, List.filter_nil, List.filter_cons, Nat.reduceAdd, Nat.reduceLeDiff, reduceCtorEq, List.length_nil, List.length_cons, Nat.mul_one, if_true, if_false, Bool.false_eq_true, eq_self, and_true, true_and, retL, resultsL, resAllL, resOfL, List.append_nil, List.nil_append, List.cons_append, true_or, or_true, false_or, or_false, false_and, and_false, not_true_eq_false, not_false_eq_true, ne_eq, unL, trim_nil, views_pures, LV.pures, LV.pure, freeze, Nat.reduceDiv, Int.reduceEq, Int.reduceLT, Int.reduceLE, Int.natCast_zero, LV.cells, allocL, List.getElem?_cons_zero, List.getElem?_cons_succ, storeL, spliceL, List.take_zero, List.take_succ_cons, List.drop_zero, List.drop_succ_cons, List.drop_nil, List.take_nil, Nat.le_refl, Nat.reduceMul, List.set_cons_zero, List.set_cons_succ, LV.scalar, List.all_cons, List.all_nil, Nat.lt_add_one, Nat.zero_lt_one, Nat.reduceLT, Nat.lt_irrefl, fillL, List.length_append, foldIntL, kind_beq, pures_int, solids_int, plains_int, unders_int, scalars_int, Int.lt_irrefl]
  | succ d ih =>
    intro k hk
    have ih := ih (k + 1) (by omega)
    have ha := append_grow pre (priceL k cs) ((2 + cs.getD k 0 % 19 : Nat) : Int) true (by rw [priceL_len]; omega)
    rw [← priceL_succ, hpre] at ha
    have hkl : k < cs.length := by omega
    have hx : cs.getD k 0 < 256 := by
      rw [List.getD_eq_getElem?_getD, List.getElem?_eq_getElem hkl]; exact hcb _ (List.getElem_mem _)
    have hg2 : (pre ++ GM (priceL k cs))[1]? = some ⟨bys cs, true⟩ := by rw [List.getElem?_append_left (by omega)]; exact hg
    have hat : (bys cs)[k]? = some (.int .u8 ((cs.getD k 0 : Nat) : Int)) := by simp [List.getD_eq_getElem?_getD, hkl]
    have hbl : (bys cs).length = 10 := by simp [hc10]
    have hwr : IntKind.i64.wrap ((cs.getD k 0 : Nat) : Int) = ((cs.getD k 0 : Nat) : Int) := wrap_in (by omega)
    have hrm : binL .rem (.int .i64 ((cs.getD k 0 : Nat) : Int)) (.int .i64 19) = some (.int .i64 ((cs.getD k 0 % 19 : Nat) : Int)) := by
      rw [bin_rem _ _ _ (show (19 : Int) ≠ 0 by omega)]; rfl
    have had : IntKind.i64.wrap (2 + ((cs.getD k 0 % 19 : Nat) : Int)) = ((2 + cs.getD k 0 % 19 : Nat) : Int) := by rw [wrap_in (by omega)]; simp
    have hvx : ∀ (x : Int) m, views m [.int .i64 x] = some ([.int .i64 x], []) := fun x m => views_pures m _ (by simp [LV.pures, LV.pure])
    have hws := wrap_succ (show k + 1 < 9223372036854775808 by omega)
    generalize 2 + cs.getD k 0 % 19 = y at *
    generalize cs.getD k 0 % 19 = z at *
    generalize cs.getD k 0 = x at *
    generalize pre ++ GM (priceL k cs) = M at *
    generalize pre ++ GM (priceL (k + 1) cs) = M2 at *
    generalize GV 3 (priceL k cs) = g1 at *
    generalize GV 3 (priceL (k + 1) cs) = g2 at *
    generalize bys cs = wc at *
    rw [law12_PostMore.L0_eq]
    simp only [law12_PostMore.B0, beqT, beqF, exF_seq, exF_region, exF_block, exF_cond, exF_ret, exF_exit, exF_skip, runL, wantL, stepL, evL, LEnv.at, putL, loadFine, loadL, cellsAt, Trk.putNew, Trk.up, Trk.touch, Trk.gives, Trk.calm, Trk.hit, opdsOf, Trk.fresh, LEnv.keep, LEnv.ofFrom, List.map_cons, List.map_nil, nbeq, nble, nblt, ofAV, ofAVs, lenL, bin_add, bin_sub, bin_mul, bin_eql, bin_neq, bin_lss, bin_leq, bin_gtr, bin_geq, natL_nat, natL_zero, natL_one, natL_two, Nat.zero_mul, List.any_cons, List.any_nil, Bool.or_false, Bool.false_or, Bool.true_or, Bool.or_true, Bool.and_true, Bool.true_and, Bool.and_false, Bool.false_and, Bool.not_true, Bool.not_false, Nat.reduceBEq, Nat.reduceEqDiff, decide_true, decide_false, cond_true, cond_false, List.filter_nil, List.filter_cons, Nat.reduceAdd, Nat.reduceLeDiff, reduceCtorEq, List.length_nil, List.length_cons, Nat.mul_one, if_true, if_false, Bool.false_eq_true, eq_self, and_true, true_and, retL, resultsL, resAllL, resOfL, List.append_nil, List.nil_append, true_or, or_true, false_or, or_false, false_and, and_false, not_true_eq_false, not_false_eq_true, ne_eq, unL, trim_nil, LV.pures, LV.pure, Nat.reduceDiv, Int.reduceEq, Int.reduceLT, Int.reduceLE, Int.natCast_zero, allocL, List.getElem?_cons_zero, List.getElem?_cons_succ, storeL, spliceL, List.take_zero, List.take_succ_cons, List.drop_zero, List.drop_succ_cons, List.drop_nil, List.take_nil, Nat.le_refl, Nat.reduceMul, List.set_cons_zero, List.set_cons_succ, LV.scalar, List.all_cons, List.all_nil, Nat.lt_add_one, Nat.zero_lt_one, Nat.reduceLT, Nat.lt_irrefl, fillL, foldIntL, kind_beq, pures_int, solids_int, plains_int, unders_int, scalars_int, show ((k : Int) < (n : Int)) by omega, show k < 10 by omega, Nat.zero_add, hg2, hbl, hat, hwr, hrm, had, LV.cells, hvx, freeze_nil, ha, hws, ih]
end Go.Am.Post

/-
  What functions of chapter 12 compute, outright 5: the law 'PostMore', joined.
-/
set_option linter.unusedVariables false
set_option linter.unusedSimpArgs false
set_option maxRecDepth 10000
set_option maxHeartbeats 2000000
namespace Go.Am.Post
open Go.Am.G

theorem okS_app {s : List Int} (K : OkS s) {b : Nat} (hb : b < s.length) (h : s.length + 1 ≤ 10) : OkS (s ++ [(b : Int)]) := by
  refine ⟨by simp, by simp; omega, ?_, ?_⟩
  · rw [getD_app K.pos]; exact K.h0
  · intro j j0 hj
    by_cases c : j < s.length
    · rw [getD_app c]; exact K.hi j j0 c
    · have e : j = s.length := by simp at hj; omega
      subst e
      rw [getD_app2 (Nat.le_refl _)]
      simp; omega
theorem rl_form (x : List Nat) : ∃ (c e : Bool) (z : Nat), RLn x = IL c e z (ci x) := ⟨_, _, _, rfl⟩
abbrev PM (w11 w10 : List LV) (more pr pl : List Int) (o1 o2 o3 : Bool) : LMem := [⟨w11, true⟩, ⟨w10, true⟩, ⟨ints more, o1⟩, ⟨ints pr, o2⟩, ⟨ints pl, o3⟩]
theorem cheap3_m (w11 w10 : List LV) (more pr pl : List Int) {s : List Int} (K : OkS s) (b : Bool) (hp : pr.length = s.length) (hr : ∀ x ∈ pr, 1 ≤ x ∧ x ≤ 20) (o1 o2 o3 : Bool) : ∃ o', clF LP n_post_Cheapest [IL false b 1 s, .sl 3 0 s.length s.length 1 1 s.length] (PM w11 w10 more pr pl o1 o2 o3) = some (.P, .tup [RLn (firstS s (prC pr)), .int .i64 0], PM w11 w10 more pr pl o1 o' o3) := by
  have hv := views_snd 32 (PM w11 w10 more pr pl o1 o2 o3) (IL false b 1 s) _ _ _ (view_at (m := PM w11 w10 more pr pl o1 o2 o3) (b := 3) hp rfl) (by simp [LV.pure]) (by simp [LV.pures, LV.pure])
  have hc := cheapP_c false b false false 1 s pr (by have := K.le; omega) (by have := K.le; omega) []
  have he : cheapE s pr = 0 := by
    unfold cheapE
    rw [K.chk, if_neg (by simp), if_neg (by omega), (range_any pr).2 hr]
    rfl
  rw [cheapV, he, if_pos rfl] at hc
  rcases call_sh lp_post_Cheapest rfl hv (by simp [LV.pures, LV.pure]) hc with h | h
  · exact ⟨o2, h⟩
  · exact ⟨false, h⟩
theorem cheap4_m (w11 w10 : List LV) (more pr pl : List Int) {s : List Int} (K : OkS s) (b : Bool) (hp : pl.length = s.length) (hr : ∀ x ∈ pl, 1 ≤ x ∧ x ≤ 20) (o1 o2 o3 : Bool) : ∃ o', clF LP n_post_Cheapest [IL false b 1 s, .sl 4 0 s.length s.length 1 1 s.length] (PM w11 w10 more pr pl o1 o2 o3) = some (.P, .tup [RLn (firstS s (prC pl)), .int .i64 0], PM w11 w10 more pr pl o1 o2 o') := by
  have hv := views_snd 32 (PM w11 w10 more pr pl o1 o2 o3) (IL false b 1 s) _ _ _ (view_at (m := PM w11 w10 more pr pl o1 o2 o3) (b := 4) hp rfl) (by simp [LV.pure]) (by simp [LV.pures, LV.pure])
  have hc := cheapP_c false b false false 1 s pl (by have := K.le; omega) (by have := K.le; omega) []
  have he : cheapE s pl = 0 := by
    unfold cheapE
    rw [K.chk, if_neg (by simp), if_neg (by omega), (range_any pl).2 hr]
    rfl
  rw [cheapV, he, if_pos rfl] at hc
  rcases call_sh lp_post_Cheapest rfl hv (by simp [LV.pures, LV.pure]) hc with h | h
  · exact ⟨o3, h⟩
  · exact ⟨false, h⟩
theorem more_in (ns : List Int) (hl : ns.length = 11) (hb : ∀ n ∈ ns, 0 ≤ n ∧ n < 256) (bh : Int) (hbh : 0 ≤ bh ∧ bh < 256) (os : List Int) (hol : os.length = 10) (hob : ∀ n ∈ os, 0 ≤ n ∧ n < 256) :
    clF LP n_law12_PostMore [.agg (ns.map (LV.int .u8)), .int .u8 bh, .agg (os.map (LV.int .u8))] [] = some (.P, .bool true, []) := by
  obtain ⟨l, rfl, hlb⟩ := bytes_nat ns hb
  obtain ⟨cs, rfl, hcb⟩ := bytes_nat os hob
  obtain ⟨bh, rfl⟩ := Int.eq_ofNat_of_zero_le hbh.1
  rw [ci_ln] at hl hol
  obtain ⟨p, bs, rfl⟩ : ∃ p bs, l = p :: bs := by
    cases l with
    | nil => simp at hl
    | cons p bs => exact ⟨p, bs, rfl⟩
  have hb10 : bs.length = 10 := by simpa using hl
  show clF LP n_law12_PostMore [.agg (bys (p :: bs)), .int .u8 (bh : Int), .agg (bys cs)] [] = some (.P, .bool true, [])
  obtain ⟨f1, f2, hm⟩ := made_c p (hlb p (by simp)) 9 (by omega) (by omega) bs hb10 (fun x hx => hlb x (by simp [hx]))
  simp only [show ((9 : Nat) : Int) = 9 from rfl] at hm
  have hk : p % 9 < 9 := Nat.mod_lt _ (by omega)
  obtain ⟨K, hsl⟩ := shoreN_ok (1 + p % 9) (by omega) (by omega) bs
  have hn9 : 1 + p % 9 ≤ 9 := by omega
  have hn1 : 1 ≤ 1 + p % 9 := by omega
  generalize handN (1 + p % 9) bs = hh at *
  generalize shoreN (1 + p % 9) bs = s at *
  generalize 1 + p % 9 = n at *
  have hbn : bh % n < n := Nat.mod_lt _ (by omega)
  have K' := okS_app K (b := bh % n) (by omega) (by omega)
  have hml : (s ++ [((bh % n : Nat) : Int)]).length = n + 1 := by simp [hsl]
  have hmf := more_few K K'
  have hw11 : (bys (p :: bs)).length = 11 := by simp [hb10]
  have hps11 : LV.pures (bys (p :: bs)) = true := pures_int _ _
  have htk11 : (bys (p :: bs)).take 11 = bys (p :: bs) := List.take_of_length_le (by omega)
  generalize bys (p :: bs) = w11 at *
  have hps10 : LV.pures (bys cs) = true := pures_int _ _
  have hw10 : (bys cs).length = 10 := by simp [hol]
  have hpure : LV.pures [LV.agg w11, .int .u8 (bh : Int), LV.agg (bys cs)] = true := by simp only [LV.pures, LV.pure, hps11, hps10, Bool.and_true]
  have hwb : IntKind.i64.wrap ((bh : Nat) : Int) = ((bh : Nat) : Int) := wrap_in (by omega)
  have hrb : binL .rem (.int .i64 ((bh : Nat) : Int)) (.int .i64 (n : Int)) = some (.int .i64 ((bh % n : Nat) : Int)) := by
    rw [bin_rem _ _ _ (show (n : Int) ≠ 0 by omega)]; rfl
  -- the fewest posts
  have few1 := fun m => fewestP_c false f1 1 s (by omega) m
  rw [fewV, K.chk, if_pos rfl] at few1
  obtain ⟨o1, few2⟩ := few_m w11 (bys cs) K' true
  obtain ⟨o2, apt2⟩ := apt_m w11 (bys cs) K' o1
  rw [hml] at few2 apt2
  have hne : s ≠ [] := by intro c; rw [c] at hsl; simp at hsl; omega
  have hcl := clone_p false f1 s (by omega) hne rfl [⟨w11, true⟩, ⟨bys cs, true⟩]
  rw [hsl] at hcl
  have hap := app_at [⟨w11, true⟩, ⟨bys cs, true⟩, ⟨ints s, true⟩] 2 n (ints s) (.int .i64 ((bh % n : Nat) : Int)) rfl rfl (by simp [hsl]) hn1 (by omega)
  have e1 : ints s ++ [.int .i64 ((bh % n : Nat) : Int)] = ints (s ++ [((bh % n : Nat) : Int)]) := by simp
  rw [e1] at hap
  simp only [List.set_cons_succ, List.set_cons_zero, List.length_cons, List.length_nil, Nat.zero_add, Nat.reduceAdd, List.cons_append, List.nil_append] at hap hcl
  -- prices
  obtain ⟨ca, ea, za, hRa⟩ := rl_form (firstS s (fun _ => 1))
  have hal : (firstS s (fun _ => 1)).length = bestC s (fun _ => 1) := few_len s
  obtain ⟨cb, eb, zb, hRb⟩ := rl_form (firstS (s ++ [((bh % n : Nat) : Int)]) (fun _ => 1))
  have hbl2 : (firstS (s ++ [((bh % n : Nat) : Int)]) (fun _ => 1)).length = bestC (s ++ [((bh % n : Nat) : Int)]) (fun _ => 1) := few_len _
  obtain ⟨ck, ek, zk, hRk⟩ := rl_form (grM (hd (s ++ [((bh % n : Nat) : Int)])) (n + 1) 0 0)
  have hkl := apart_few K'
  rw [hml] at hkl
  rw [hRa] at few1
  rw [hRb] at few2
  rw [hRk] at apt2
  have hplen := priceL_len n cs
  have hprange : ∀ x ∈ priceL n cs, 2 ≤ x ∧ x ≤ 20 := fun x hx => by
    simp only [priceL, List.mem_map, List.mem_range] at hx
    obtain ⟨i, _, rfl⟩ := hx
    have := Nat.mod_lt (cs.getD i 0) (show 0 < 19 by omega)
    omega
  have hplo := price_loop cs hol hcb (.int .u8 (bh : Int)) (IL false f1 1 s) (IL ca ea za (ci (firstS s (fun _ => 1)))) n (by omega) (MM w11 (bys cs) (s ++ [((bh % n : Nat) : Int)]) o2) [] rfl rfl n 0 (by omega)
  have hGV0 : GV 3 (priceL 0 cs) = .lst true true 0 0 [] := rfl
  have hGM0 : GM (priceL 0 cs) = [] := rfl
  have hpne : priceL n cs ≠ [] := by intro c; rw [c] at hplen; simp at hplen; omega
  have hGV : GV 3 (priceL n cs) = .sl 3 0 n n 1 1 n := by simp only [GV, if_neg hpne, hplen]
  have hGM : GM (priceL n cs) = [⟨ints (priceL n cs), true⟩] := by simp only [GM, if_neg hpne]
  rw [hGV0, hGM0, hGV, hGM] at hplo
  generalize hprd : priceL n cs = pr at *
  have hkk : bh % n < pr.length := by omega
  have hpk := hprange _ (List.getElem_mem hkk)
  generalize hpld : pr.set (bh % n) (pr[bh % n] - 1) = pl at *
  have hpll : pl.length = n := by rw [← hpld]; simp [hplen]
  have hplrange : ∀ x ∈ pl, 1 ≤ x ∧ x ≤ 20 := fun x hx => by
    rw [← hpld] at hx
    rcases List.mem_or_eq_of_mem_set hx with h | h
    · have := hprange x h; omega
    · omega
  have hprr : ∀ x ∈ pr, 1 ≤ x ∧ x ≤ 20 := fun x hx => by have := hprange x hx; omega
  have hq : ∀ x, x ≠ bh % n → prC pl x = prC pr x := fun x hx => by
    unfold prC
    rw [← hpld, List.getD_eq_getElem?_getD, List.getD_eq_getElem?_getD, List.getElem?_set]
    have : ¬ bh % n = x := fun e => hx e.symm
    simp only [if_neg this]
  have hqb : prC pr (bh % n) = prC pl (bh % n) + 1 := by
    unfold prC
    rw [← hpld, List.getD_eq_getElem?_getD, List.getD_eq_getElem?_getD, List.getElem?_set]
    simp only [if_true, hkk, List.getElem?_eq_getElem hkk, Option.getD_some]
    omega
  obtain ⟨c1, c2⟩ := less_cost K (prC pr) (prC pl) (bh % n) hq hqb
  have hga := firstS_good s (fun _ => 1)
  have hw := best_min (prC pr) (firstS_asc s (fun _ => 1)) hga.1
  have hgx := (firstS_good s (prC pr)).2
  have hgy := (firstS_good s (prC pl)).2
  have hlt : ∀ price : Nat → Nat, ∀ y ∈ firstS s price, y < n := fun price y hy => by
    have := ((mem_asc _ _ _).1 (firstS_asc s price)).2 y hy
    omega
  have hlen10 : ∀ price : Nat → Nat, (firstS s price).length ≤ 1000 := fun price => by
    have h1 := (mem_asc _ _ _).1 (firstS_asc s price)
    have h2 := len_le (firstS s price) (List.range n) (up_nodup h1.1) fun x hx => by simpa using hlt price x hx
    simp at h2
    omega
  have hclm := clone_m (m := [⟨w11, true⟩, ⟨bys cs, true⟩, ⟨ints (s ++ [((bh % n : Nat) : Int)]), o2⟩, ⟨ints pr, true⟩]) pr (by omega) hpne (views_one 32 _ _ _ _ (view_at (b := 3) hplen rfl) (by simp [LV.pures, LV.pure]))
  rw [hplen] at hclm
  have hsub : IntKind.i64.wrap (pr[bh % n] - 1) = pr[bh % n] - 1 := wrap_in (by omega)
  have hat : (ints pr)[bh % n]? = some (.int .i64 pr[bh % n]) := int_at _ _ _ hkk
  have hst : (ints pr).take (bh % n) ++ [.int .i64 (pr[bh % n] - 1)] ++ (ints pr).drop (bh % n + 1) = ints pl := by
    rw [← hpld]; exact set_int _ _ _ _ hkk
  have hpil : (ints pr).length = n := by simp [hplen]
  obtain ⟨o3, ch3⟩ := cheap3_m w11 (bys cs) (s ++ [((bh % n : Nat) : Int)]) pr pl K f1 (by omega) hprr o2 true true
  obtain ⟨o4, ch4⟩ := cheap4_m w11 (bys cs) (s ++ [((bh % n : Nat) : Int)]) pr pl K f1 (by omega) hplrange o2 o3 true
  rw [hsl] at ch3 ch4
  obtain ⟨cx, ex, zx, hRx⟩ := rl_form (firstS s (prC pr))
  obtain ⟨cy, ey, zy, hRy⟩ := rl_form (firstS s (prC pl))
  rw [hRx] at ch3
  rw [hRy] at ch4
  have cost3 : ∀ (l : List Nat) (c d : Bool) (z : Nat), (∀ y ∈ l, y < n) → l.length ≤ 1000 → clF LP n_law12_PostMore_1 [.sl 3 0 n n 1 1 n, IL c d z (ci l)] (PM w11 (bys cs) (s ++ [((bh % n : Nat) : Int)]) pr pl o2 o3 o4) = some (.P, .int .i64 (cost (prC pr) l : Int), PM w11 (bys cs) (s ++ [((bh % n : Nat) : Int)]) pr pl o2 o3 o4) := fun l c d z h1 h2 =>
    call_view lp_law12_PostMore_1 rfl (views_two 32 _ _ _ _ _ (view_at (b := 3) hplen rfl) (by simp [LV.pure]) (by simp [LV.pures, LV.pure])) (by simp [LV.pures, LV.pure]) (cost_c false false pr l c d z (fun y hy => by have := hprr y hy; omega) (fun y hy => by have := h1 y hy; omega) h2 []) rfl
  have cost4 : ∀ (l : List Nat) (c d : Bool) (z : Nat), (∀ y ∈ l, y < n) → l.length ≤ 1000 → clF LP n_law12_PostMore_1 [.sl 4 0 n n 1 1 n, IL c d z (ci l)] (PM w11 (bys cs) (s ++ [((bh % n : Nat) : Int)]) pr pl o2 o3 o4) = some (.P, .int .i64 (cost (prC pl) l : Int), PM w11 (bys cs) (s ++ [((bh % n : Nat) : Int)]) pr pl o2 o3 o4) := fun l c d z h1 h2 =>
    call_view lp_law12_PostMore_1 rfl (views_two 32 _ _ _ _ _ (view_at (b := 4) hpll rfl) (by simp [LV.pure]) (by simp [LV.pures, LV.pure])) (by simp [LV.pures, LV.pure]) (cost_c false false pl l c d z (fun y hy => by have := hplrange y hy; omega) (fun y hy => by have := h1 y hy; omega) h2 []) rfl
  have k1 := cost3 _ cx ex zx (hlt _) (hlen10 (prC pr))
  have k2 := cost4 _ cy ey zy (hlt _) (hlen10 (prC pl))
  have k3 := cost3 _ ca ea za (hlt _) (hlen10 (fun _ => 1))
  rw [hgx] at k1
  rw [hgy] at k2
  have hb1 := best_le K (fun _ => 1) (fun _ _ => by omega)
  have hu := best_le K (prC pr) (fun i hi => by
    unfold prC
    rw [List.getD_eq_getElem?_getD, List.getElem?_eq_getElem (by omega)]
    have := hprr _ (List.getElem_mem (show i < pr.length by omega))
    simp only [Option.getD_some]
    omega)
  have la := ci_ln (firstS s (fun _ => 1))
  have lb := ci_ln (firstS (s ++ [((bh % n : Nat) : Int)]) (fun _ => 1))
  have lk := ci_ln (grM (hd (s ++ [((bh % n : Nat) : Int)])) (n + 1) 0 0)
  rw [hal] at la
  rw [hbl2] at lb
  rw [hkl] at lk
  simp only [MM, PM] at few2 apt2 hplo ch3 ch4 k1 k2 k3 hclm
  simp only [Int.natCast_zero, List.append_nil, List.cons_append, List.nil_append, List.length_cons, List.length_nil, Nat.zero_add, Nat.reduceAdd] at hplo hclm
  generalize ci (firstS s (fun _ => 1)) = A at *
  generalize ci (firstS (s ++ [((bh % n : Nat) : Int)]) (fun _ => 1)) = B at *
  generalize ci (grM (hd (s ++ [((bh % n : Nat) : Int)])) (n + 1) 0 0) = G at *
  generalize ci (firstS s (prC pr)) = X at *
  generalize ci (firstS s (prC pl)) = Y at *
  generalize bestC s (fun _ => 1) = b1 at *
  generalize bestC (s ++ [((bh % n : Nat) : Int)]) (fun _ => 1) = b2 at *
  generalize bestC s (prC pr) = u at *
  generalize bestC s (prC pl) = v at *
  generalize cost (prC pr) (firstS s (fun _ => 1)) = w at *
  have hkn : bh % n + 1 ≤ n := by omega
  have d1 : ¬ ((b2 : Int) < (b1 : Int)) := by omega
  have d2 : IntKind.i64.wrap ((b1 : Int) + 1) = (b1 : Int) + 1 := wrap_in (by omega)
  have d3 : ¬ ((b1 : Int) + 1 < (b2 : Int)) := by omega
  have d4 : (0 : Int) ≤ (v : Int) := by omega
  have d5 : (v : Int) ≤ (u : Int) := by omega
  have d6 : IntKind.i64.wrap ((u : Int) - 1) = (u : Int) - 1 := wrap_in (by omega)
  have d7 : (u : Int) - 1 ≤ (v : Int) := by omega
  have d8 : (u : Int) ≤ (w : Int) := by omega
  refine call_P lp_law12_PostMore rfl hpure (m1 := PM w11 (bys cs) (s ++ [((bh % n : Nat) : Int)]) pr pl o2 o3 o4) ?_ rfl []
  generalize bys cs = w10 at *
  generalize hmore : s ++ [((bh % n : Nat) : Int)] = more at *
  generalize bh % n = kk at *
  simp only [law12_PostMore, law12_PostMore.B]
  repeat (rw [exF_seq]; try simp only [beqT, beqF, exF_region, exF_block, exF_cond, exF_ret, exF_exit, exF_skip, runL, wantL, stepL, evL, LEnv.at, putL, loadFine, loadL, cellsAt, Trk.putNew, Trk.up, Trk.touch, Trk.gives, Trk.calm, Trk.hit, opdsOf, Trk.fresh, LEnv.keep, LEnv.ofFrom, List.map_cons, List.map_nil, nbeq, nble, nblt, ofAV, ofAVs, lenL, bin_add, bin_sub, bin_mul, bin_eql, bin_neq, bin_lss, bin_leq, bin_gtr, bin_geq, natL_nat, natL_zero, natL_one, natL_two, Nat.zero_mul, List.any_cons, List.any_nil, Bool.or_false, Bool.false_or, Bool.true_or, Bool.or_true, Bool.and_true, Bool.true_and, Bool.and_false, Bool.false_and, Bool.not_true, Bool.not_false, Nat.reduceBEq, Nat.reduceEqDiff, decide_true, decide_false, cond_true, cond_false, List.filter_nil, List.filter_cons, Nat.reduceAdd, Nat.reduceLeDiff, reduceCtorEq, List.length_nil, List.length_cons, Nat.mul_one, if_true, if_false, Bool.false_eq_true, eq_self, and_true, true_and, retL, resultsL, resAllL, resOfL, List.append_nil, List.nil_append, List.cons_append, true_or, or_true, false_or, or_false, false_and, and_false, not_true_eq_false, not_false_eq_true, ne_eq, unL, trim_nil, views_pures, LV.pures, LV.pure, freeze, Nat.reduceDiv, Int.reduceEq, Int.reduceLT, Int.reduceLE, Int.natCast_zero, LV.cells, allocL, List.getElem?_cons_zero, List.getElem?_cons_succ, storeL, spliceL, List.take_zero, List.take_succ_cons, List.drop_zero, List.drop_succ_cons, List.drop_nil, List.take_nil, Nat.le_refl, Nat.reduceMul, List.set_cons_zero, List.set_cons_succ, LV.scalar, List.all_cons, List.all_nil, Nat.lt_add_one, Nat.zero_lt_one, Nat.reduceLT, Nat.lt_irrefl, fillL, List.length_append, foldIntL, kind_beq, pures_int, solids_int, plains_int, unders_int, scalars_int, hw11, hw10, htk11, hm, hcl, hwb, hsl, hrb, hap, few1, few2, apt2, la, lb, lk, d1, d2, d3, hplo, hclm, hpil, hbn, hkn, Nat.zero_add, hat, hsub, hst, ch3, ch4, k1, k2, k3, d4, d5, d6, d7, d8, works_c])
  trace_state
end Go.Am.Post


