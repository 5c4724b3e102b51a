/-
  What functions of chapter 12 compute, 2: what is at hand, sets as lists.
-/
import Derived.Test.YthnaeifkngeenaaPostC1
set_option linter.unusedVariables false
set_option linter.unusedSimpArgs false
set_option maxRecDepth 10000
namespace Go.Am.Post
open Go.Am.G

/-! ### Sets as lists -/
abbrev ci (l : List Nat) : List Int := l.map fun x : Nat => (x : Int)
def memR (x k n : Nat) : List Nat := (List.range' k n).filter fun i => x.testBit i
def memL (x : Nat) : List Nat := memR x 0 10
theorem memR_succ (x k n : Nat) : memR x k (n + 1) = (if x.testBit k then [k] else []) ++ memR x (k + 1) n := by
  unfold memR
  rw [List.range'_succ, List.filter_cons]
  split <;> rfl
theorem members_loop (x : Nat) (hx : x < 18446744073709551616) (n : Nat) : ∀ (k : Nat) (l : List Nat), k + n = 10 → l.length ≤ k →
    exF LP post_members.L0 [(0, .int .u64 (x : Int)), (3, GV 0 (ci l)), (5, .int .i64 (k : Int))] (GM (ci l)) = some (.exit 0, [(3, GV 0 (ci (l ++ memR x k n)))], GM (ci (l ++ memR x k n))) := by
  induction n with
  | zero =>
    intro k l hk hl
    rw [post_members.L0_eq]
    simp only [post_members.B0, beqT, beqF, exF_seq, exF_region, exF_block, exF_cond, exF_ret, exF_exit, exF_skip, runL, wantL, stepL, evL, LEnv.at, putL, loadFine, loadL, cellsAt, Trk.putNew, Trk.up, Trk.touch, Trk.gives, Trk.calm, Trk.hit, opdsOf, Trk.fresh, LEnv.keep, LEnv.ofFrom, List.map_cons, List.map_nil, nbeq, nble, nblt, ofAV, ofAVs, lenL, bin_add, bin_sub, bin_mul, bin_eql, bin_neq, bin_lss, bin_leq, bin_gtr, bin_geq, natL_nat, natL_zero, natL_one, natL_two, Nat.zero_mul, List.any_cons, List.any_nil, Bool.or_false, Bool.false_or, Bool.true_or, Bool.or_true, Bool.and_true, Bool.true_and, Bool.and_false, Bool.false_and, Bool.not_true, Bool.not_false, Nat.reduceBEq, Nat.reduceEqDiff, decide_true, decide_false, cond_true, cond_false, List.filter_nil, List.filter_cons, Nat.reduceAdd, Nat.reduceLeDiff, reduceCtorEq, List.length_nil, List.length_cons, Nat.mul_one, if_true, if_false, Bool.false_eq_true, eq_self, and_true, true_and, retL, resultsL, resAllL, resOfL, List.append_nil, List.nil_append, List.cons_append, true_or, or_true, false_or, or_false, false_and, and_false, not_true_eq_false, not_false_eq_true, ne_eq, unL, trim_nil, views_pures, LV.pures, LV.pure, freeze, Nat.reduceDiv, Int.reduceEq, Int.reduceLT, Int.reduceLE, Int.natCast_zero, LV.cells, allocL, List.getElem?_cons_zero, List.getElem?_cons_succ, storeL, spliceL, List.take_zero, List.take_succ_cons, List.drop_zero, List.drop_succ_cons, List.drop_nil, List.take_nil, Nat.le_refl, Nat.reduceMul, List.set_cons_zero, List.set_cons_succ, LV.scalar, List.all_cons, List.all_nil, Nat.lt_add_one, Nat.zero_lt_one, Nat.reduceLT, Nat.lt_irrefl, fillL, List.length_append, foldIntL, kind_beq, pures_int, solids_int, plains_int, unders_int, scalars_int, show ¬ ((k : Int) < 10) by omega, memR, List.range'_zero]
  | succ n ih =>
    intro k l hk hl
    rw [post_members.L0_eq, memR_succ]
    have hd : x / 2 ^ k < 18446744073709551616 := Nat.lt_of_le_of_lt (Nat.div_le_self _ _) hx
    have ht := Nat.testBit_eq_decide_div_mod_eq (x := x) (i := k)
    by_cases hb : x / 2 ^ k % 2 = 1
    · have hb' : ((x / 2 ^ k % 2 : Nat) : Int) = 1 := by omega
      have ih := ih (k + 1) (l ++ [k]) (by omega) (by simp; omega)
      rw [ht, decide_eq_true hb, if_pos rfl, ← List.append_assoc]
      have e : ci (l ++ [k]) = ci l ++ [(k : Int)] := by simp
      have ap := append_grow0 (ci l) (k : Int) true (by simp; omega)
      rw [← e] at ap
      simp only [post_members.B0, beqT, beqF, exF_seq, exF_region, exF_block, exF_cond, exF_ret, exF_exit, exF_skip, runL, wantL, stepL, evL, LEnv.at, putL, loadFine, loadL, cellsAt, Trk.putNew, Trk.up, Trk.touch, Trk.gives, Trk.calm, Trk.hit, opdsOf, Trk.fresh, LEnv.keep, LEnv.ofFrom, List.map_cons, List.map_nil, nbeq, nble, nblt, ofAV, ofAVs, lenL, bin_add, bin_sub, bin_mul, bin_eql, bin_neq, bin_lss, bin_leq, bin_gtr, bin_geq, natL_nat, natL_zero, natL_one, natL_two, Nat.zero_mul, List.any_cons, List.any_nil, Bool.or_false, Bool.false_or, Bool.true_or, Bool.or_true, Bool.and_true, Bool.true_and, Bool.and_false, Bool.false_and, Bool.not_true, Bool.not_false, Nat.reduceBEq, Nat.reduceEqDiff, decide_true, decide_false, cond_true, cond_false, List.filter_nil, List.filter_cons, Nat.reduceAdd, Nat.reduceLeDiff, reduceCtorEq, List.length_nil, List.length_cons, Nat.mul_one, if_true, if_false, Bool.false_eq_true, eq_self, and_true, true_and, retL, resultsL, resAllL, resOfL, List.append_nil, List.nil_append, List.cons_append, true_or, or_true, false_or, or_false, false_and, and_false, not_true_eq_false, not_false_eq_true, ne_eq, unL, trim_nil, views_pures, LV.pures, LV.pure, freeze, Nat.reduceDiv, Int.reduceEq, Int.reduceLT, Int.reduceLE, Int.natCast_zero, LV.cells, allocL, List.getElem?_cons_zero, List.getElem?_cons_succ, storeL, spliceL, List.take_zero, List.take_succ_cons, List.drop_zero, List.drop_succ_cons, List.drop_nil, List.take_nil, Nat.le_refl, Nat.reduceMul, List.set_cons_zero, List.set_cons_succ, LV.scalar, List.all_cons, List.all_nil, Nat.lt_add_one, Nat.zero_lt_one, Nat.reduceLT, Nat.lt_irrefl, fillL, List.length_append, foldIntL, kind_beq, pures_int, solids_int, plains_int, unders_int, scalars_int, show ((k : Int) < 10) by omega, bits_shr (a := x) (show k < 64 by omega), bits_and1 hd, hb', ap, wrap_succ (show k + 1 < 9223372036854775808 by omega), ih]
    · have hb' : ¬ ((x / 2 ^ k % 2 : Nat) : Int) = 1 := by omega
      have ih := ih (k + 1) l (by omega) (by omega)
      rw [ht, decide_eq_false hb, if_neg (by simp), List.nil_append]
      simp only [post_members.B0, beqT, beqF, exF_seq, exF_region, exF_block, exF_cond, exF_ret, exF_exit, exF_skip, runL, wantL, stepL, evL, LEnv.at, putL, loadFine, loadL, cellsAt, Trk.putNew, Trk.up, Trk.touch, Trk.gives, Trk.calm, Trk.hit, opdsOf, Trk.fresh, LEnv.keep, LEnv.ofFrom, List.map_cons, List.map_nil, nbeq, nble, nblt, ofAV, ofAVs, lenL, bin_add, bin_sub, bin_mul, bin_eql, bin_neq, bin_lss, bin_leq, bin_gtr, bin_geq, natL_nat, natL_zero, natL_one, natL_two, Nat.zero_mul, List.any_cons, List.any_nil, Bool.or_false, Bool.false_or, Bool.true_or, Bool.or_true, Bool.and_true, Bool.true_and, Bool.and_false, Bool.false_and, Bool.not_true, Bool.not_false, Nat.reduceBEq, Nat.reduceEqDiff, decide_true, decide_false, cond_true, cond_false, List.filter_nil, List.filter_cons, Nat.reduceAdd, Nat.reduceLeDiff, reduceCtorEq, List.length_nil, List.length_cons, Nat.mul_one, if_true, if_false, Bool.false_eq_true, eq_self, and_true, true_and, retL, resultsL, resAllL, resOfL, List.append_nil, List.nil_append, List.cons_append, true_or, or_true, false_or, or_false, false_and, and_false, not_true_eq_false, not_false_eq_true, ne_eq, unL, trim_nil, views_pures, LV.pures, LV.pure, freeze, Nat.reduceDiv, Int.reduceEq, Int.reduceLT, Int.reduceLE, Int.natCast_zero, LV.cells, allocL, List.getElem?_cons_zero, List.getElem?_cons_succ, storeL, spliceL, List.take_zero, List.take_succ_cons, List.drop_zero, List.drop_succ_cons, List.drop_nil, List.take_nil, Nat.le_refl, Nat.reduceMul, List.set_cons_zero, List.set_cons_succ, LV.scalar, List.all_cons, List.all_nil, Nat.lt_add_one, Nat.zero_lt_one, Nat.reduceLT, Nat.lt_irrefl, fillL, List.length_append, foldIntL, kind_beq, pures_int, solids_int, plains_int, unders_int, scalars_int, show ((k : Int) < 10) by omega, bits_shr (a := x) (show k < 64 by omega), bits_and1 hd, hb', wrap_succ (show k + 1 < 9223372036854775808 by omega), ih]
theorem members_c (x : Nat) (hx : x < 18446744073709551616) (m : LMem) : clF LP n_post_members [.int .u64 (x : Int)] m = some (.P, RL (ci (memL x)), m) := by
  have h := members_loop x hx 10 0 [] (by omega) (by simp)
  rw [List.nil_append] at h
  simp only [Int.natCast_zero] at h
  have h : exF LP post_members.L0 [(0, .int .u64 (x : Int)), (3, .lst true true 0 0 []), (5, .int .i64 0)] [] = some (.exit 0, [(3, GV 0 (ci (memL x)))], GM (ci (memL x))) := h
  refine call_Pv lp_post_members rfl (by simp [LV.pures, LV.pure]) ?_ (view_grow0 37 (ci (memL x))) m
  simp only [post_members, post_members.B, beqT, beqF, exF_seq, exF_region, exF_block, exF_cond, exF_ret, exF_exit, exF_skip, runL, wantL, stepL, evL, LEnv.at, putL, loadFine, loadL, cellsAt, Trk.putNew, Trk.up, Trk.touch, Trk.gives, Trk.calm, Trk.hit, opdsOf, Trk.fresh, LEnv.keep, LEnv.ofFrom, List.map_cons, List.map_nil, nbeq, nble, nblt, ofAV, ofAVs, lenL, bin_add, bin_sub, bin_mul, bin_eql, bin_neq, bin_lss, bin_leq, bin_gtr, bin_geq, natL_nat, natL_zero, natL_one, natL_two, Nat.zero_mul, List.any_cons, List.any_nil, Bool.or_false, Bool.false_or, Bool.true_or, Bool.or_true, Bool.and_true, Bool.true_and, Bool.and_false, Bool.false_and, Bool.not_true, Bool.not_false, Nat.reduceBEq, Nat.reduceEqDiff, decide_true, decide_false, cond_true, cond_false, List.filter_nil, List.filter_cons, Nat.reduceAdd, Nat.reduceLeDiff, reduceCtorEq, List.length_nil, List.length_cons, Nat.mul_one, if_true, if_false, Bool.false_eq_true, eq_self, and_true, true_and, retL, resultsL, resAllL, resOfL, List.append_nil, List.nil_append, List.cons_append, true_or, or_true, false_or, or_false, false_and, and_false, not_true_eq_false, not_false_eq_true, ne_eq, unL, trim_nil, views_pures, LV.pures, LV.pure, freeze, Nat.reduceDiv, Int.reduceEq, Int.reduceLT, Int.reduceLE, Int.natCast_zero, LV.cells, allocL, List.getElem?_cons_zero, List.getElem?_cons_succ, storeL, spliceL, List.take_zero, List.take_succ_cons, List.drop_zero, List.drop_succ_cons, List.drop_nil, List.take_nil, Nat.le_refl, Nat.reduceMul, List.set_cons_zero, List.set_cons_succ, LV.scalar, List.all_cons, List.all_nil, Nat.lt_add_one, Nat.zero_lt_one, Nat.reduceLT, Nat.lt_irrefl, fillL, List.length_append, foldIntL, kind_beq, pures_int, solids_int, plains_int, unders_int, scalars_int, h]

/-! ### What is at hand -/
def hset (h : List Nat) (i x : Nat) : List Nat := h.set i (h.getD i 0 ||| 2 ^ x)
def hstep (s : List Int) (i : Nat) (h : List Nat) : List Nat :=
  if 0 ≤ s.getD i 0 then hset (hset (hset h i i) i (s.getD i 0).toNat) (s.getD i 0).toNat i else hset h i i
def hloop (s : List Int) : Nat → Nat → List Nat → List Nat
  | 0, _, h => h
  | n + 1, k, h => hloop s n (k + 1) (hstep s k h)
def handsV (s : List Int) : List Nat := hloop s s.length 0 (List.replicate s.length 0)
def Small (h : List Nat) : Prop := ∀ i, h.getD i 0 < 1024
theorem hset_length (h : List Nat) (i x : Nat) : (hset h i x).length = h.length := by simp [hset]
theorem getD_hset (h : List Nat) (i x v : Nat) : (hset h i x).getD v 0 = if v = i ∧ i < h.length then h.getD i 0 ||| 2 ^ x else h.getD v 0 := by
  unfold hset
  simp only [List.getD_eq_getElem?_getD, List.getElem?_set]
  by_cases e : i = v
  · subst e
    by_cases hl : i < h.length
    · simp [hl]
    · simp [hl]
  · have : ¬ v = i := fun c => e c.symm
    simp [e, this]
theorem hset_small {h : List Nat} (H : Small h) (i : Nat) {x : Nat} (hx : x < 10) : Small (hset h i x) := by
  intro v
  rw [getD_hset]
  split
  · exact Nat.or_lt_two_pow (n := 10) (H i) (Nat.pow_lt_pow_right (by omega) hx)
  · exact H v
theorem nats_getD (l : List Nat) (i : Nat) (h : i < l.length) : (nats l)[i]? = some (.int .u64 ((l.getD i 0 : Nat) : Int)) := by
  rw [nats_at l i h]; simp [List.getD_eq_getElem?_getD, h]
theorem set_hset (l : List Nat) (i x : Nat) (h : i < l.length) : (nats l).take i ++ [LV.int .u64 ((l.getD i 0 ||| 2 ^ x : Nat) : Int)] ++ (nats l).drop (i + 1) = nats (hset l i x) := set_nat l i _ h
theorem pow_small {x : Nat} (h : x < 10) : 2 ^ x < 18446744073709551616 := Nat.lt_trans (Nat.pow_lt_pow_right (by omega) h) (by omega)
theorem hands_loop (nl ex : Bool) (sz : Nat) (s : List Int) (L : Nat) (hL : s.length = L) (h10 : L ≤ 10) (hs : ∀ v, v < L → s.getD v 0 < (L : Int)) (n : Nat) : ∀ (k : Nat) (h : List Nat), k + n = L → h.length = L → Small h →
    exF LP post_hands.L0 [(0, IL nl ex sz s), (3, .sl 0 0 L L 0 1 L), (10, .int .i64 (L : Int)), (11, .int .i64 (k : Int))] [⟨nats h, true⟩] = some (.exit 0, [(3, .sl 0 0 L L 0 1 L)], [⟨nats (hloop s n k h), true⟩]) := by
  induction n with
  | zero =>
    intro k h hk hl H
    rw [post_hands.L0_eq]
    simp only [post_hands.B0, beqT, beqF, exF_seq, exF_region, exF_block, exF_cond, exF_ret, exF_exit, exF_skip, runL, wantL, stepL, evL, LEnv.at, putL, loadFine, loadL, cellsAt, Trk.putNew, Trk.up, Trk.touch, Trk.gives, Trk.calm, Trk.hit, opdsOf, Trk.fresh, LEnv.keep, LEnv.ofFrom, List.map_cons, List.map_nil, nbeq, nble, nblt, ofAV, ofAVs, lenL, bin_add, bin_sub, bin_mul, bin_eql, bin_neq, bin_lss, bin_leq, bin_gtr, bin_geq, natL_nat, natL_zero, natL_one, natL_two, Nat.zero_mul, List.any_cons, List.any_nil, Bool.or_false, Bool.false_or, Bool.true_or, Bool.or_true, Bool.and_true, Bool.true_and, Bool.and_false, Bool.false_and, Bool.not_true, Bool.not_false, Nat.reduceBEq, Nat.reduceEqDiff, decide_true, decide_false, cond_true, cond_false, List.filter_nil, List.filter_cons, Nat.reduceAdd, Nat.reduceLeDiff, reduceCtorEq, List.length_nil, List.length_cons, Nat.mul_one, if_true, if_false, Bool.false_eq_true, eq_self, and_true, true_and, retL, resultsL, resAllL, resOfL, List.append_nil, List.nil_append, List.cons_append, true_or, or_true, false_or, or_false, false_and, and_false, not_true_eq_false, not_false_eq_true, ne_eq, unL, trim_nil, views_pures, LV.pures, LV.pure, freeze, Nat.reduceDiv, Int.reduceEq, Int.reduceLT, Int.reduceLE, Int.natCast_zero, LV.cells, allocL, List.getElem?_cons_zero, List.getElem?_cons_succ, storeL, spliceL, List.take_zero, List.take_succ_cons, List.drop_zero, List.drop_succ_cons, List.drop_nil, List.take_nil, Nat.le_refl, Nat.reduceMul, List.set_cons_zero, List.set_cons_succ, LV.scalar, List.all_cons, List.all_nil, Nat.lt_add_one, Nat.zero_lt_one, Nat.reduceLT, Nat.lt_irrefl, fillL, List.length_append, foldIntL, kind_beq, pures_int, solids_int, plains_int, unders_int, scalars_int, show ¬ ((k : Int) < (L : Int)) by omega, hloop]
  | succ n ih =>
    intro k h hk hl H
    have h2 : k < s.length := by omega
    have hkL : k < L := by omega
    have hkh : k < h.length := by omega
    have hgk : s[k] = s.getD k 0 := by simp [List.getD_eq_getElem?_getD, h2]
    have hb := hs k hkL
    have H1 := hset_small H k (show k < 10 by omega)
    have l1 := hset_length h k k
    have o1 := bits_or (Nat.lt_trans (H k) (by omega)) (pow_small (show k < 10 by omega))
    rw [post_hands.L0_eq, hloop, hstep]
    by_cases h0 : 0 ≤ s.getD k 0
    · rw [if_pos h0]
      obtain ⟨b, hbe⟩ := Int.eq_ofNat_of_zero_le h0
      rw [hbe] at hb hgk h0 ⊢
      rw [Int.toNat_natCast]
      have hbL : b < L := by omega
      have H2 := hset_small H1 k (show b < 10 by omega)
      have l2 := hset_length (hset h k k) k b
      have H3 := hset_small H2 b (show k < 10 by omega)
      have l3 := hset_length (hset (hset h k k) k b) b k
      have o2 := bits_or (Nat.lt_trans (H1 k) (by omega)) (pow_small (show b < 10 by omega))
      have o3 := bits_or (Nat.lt_trans (H2 b) (by omega)) (pow_small (show k < 10 by omega))
      have hk1 : k < (hset h k k).length := by omega
      have hb2 : b < (hset (hset h k k) k b).length := by omega
      have ih := ih (k + 1) (hset (hset (hset h k k) k b) b k) (by omega) (by omega) H3
      simp only [post_hands.B0, beqT, beqF, exF_seq, exF_region, exF_block, exF_cond, exF_ret, exF_exit, exF_skip, runL, wantL, stepL, evL, LEnv.at, putL, loadFine, loadL, cellsAt, Trk.putNew, Trk.up, Trk.touch, Trk.gives, Trk.calm, Trk.hit, opdsOf, Trk.fresh, LEnv.keep, LEnv.ofFrom, List.map_cons, List.map_nil, nbeq, nble, nblt, ofAV, ofAVs, lenL, bin_add, bin_sub, bin_mul, bin_eql, bin_neq, bin_lss, bin_leq, bin_gtr, bin_geq, natL_nat, natL_zero, natL_one, natL_two, Nat.zero_mul, List.any_cons, List.any_nil, Bool.or_false, Bool.false_or, Bool.true_or, Bool.or_true, Bool.and_true, Bool.true_and, Bool.and_false, Bool.false_and, Bool.not_true, Bool.not_false, Nat.reduceBEq, Nat.reduceEqDiff, decide_true, decide_false, cond_true, cond_false, List.filter_nil, List.filter_cons, Nat.reduceAdd, Nat.reduceLeDiff, reduceCtorEq, List.length_nil, List.length_cons, Nat.mul_one, if_true, if_false, Bool.false_eq_true, eq_self, and_true, true_and, retL, resultsL, resAllL, resOfL, List.append_nil, List.nil_append, List.cons_append, true_or, or_true, false_or, or_false, false_and, and_false, not_true_eq_false, not_false_eq_true, ne_eq, unL, trim_nil, views_pures, LV.pures, LV.pure, freeze, Nat.reduceDiv, Int.reduceEq, Int.reduceLT, Int.reduceLE, Int.natCast_zero, LV.cells, allocL, List.getElem?_cons_zero, List.getElem?_cons_succ, storeL, spliceL, List.take_zero, List.take_succ_cons, List.drop_zero, List.drop_succ_cons, List.drop_nil, List.take_nil, Nat.le_refl, Nat.reduceMul, List.set_cons_zero, List.set_cons_succ, LV.scalar, List.all_cons, List.all_nil, Nat.lt_add_one, Nat.zero_lt_one, Nat.reduceLT, Nat.lt_irrefl, fillL, List.length_append, foldIntL, kind_beq, pures_int, solids_int, plains_int, unders_int, scalars_int, show ((k : Int) < (L : Int)) by omega, hkL, hl, hkh, nats_length, Nat.zero_add, nats_getD _ _ hkh, bits_shl (show k < 64 by omega), o1, set_hset _ _ _ hkh, h2, int_at _ _ _ h2, hgk, show ¬ ((b : Int) < 0) by omega, show ((b : Int) ≥ 0) by omega, h0, l1, nats_getD _ _ hk1, bits_shl (show b < 64 by omega), o2, set_hset _ _ _ hk1, hbL, l2, nats_getD _ _ hb2, o3, set_hset _ _ _ hb2, show k + 1 ≤ L by omega, show b + 1 ≤ L by omega, wrap_succ (show k + 1 < 9223372036854775808 by omega), ih]
    · rw [if_neg h0]
      have ih := ih (k + 1) (hset h k k) (by omega) (by omega) H1
      simp only [post_hands.B0, beqT, beqF, exF_seq, exF_region, exF_block, exF_cond, exF_ret, exF_exit, exF_skip, runL, wantL, stepL, evL, LEnv.at, putL, loadFine, loadL, cellsAt, Trk.putNew, Trk.up, Trk.touch, Trk.gives, Trk.calm, Trk.hit, opdsOf, Trk.fresh, LEnv.keep, LEnv.ofFrom, List.map_cons, List.map_nil, nbeq, nble, nblt, ofAV, ofAVs, lenL, bin_add, bin_sub, bin_mul, bin_eql, bin_neq, bin_lss, bin_leq, bin_gtr, bin_geq, natL_nat, natL_zero, natL_one, natL_two, Nat.zero_mul, List.any_cons, List.any_nil, Bool.or_false, Bool.false_or, Bool.true_or, Bool.or_true, Bool.and_true, Bool.true_and, Bool.and_false, Bool.false_and, Bool.not_true, Bool.not_false, Nat.reduceBEq, Nat.reduceEqDiff, decide_true, decide_false, cond_true, cond_false, List.filter_nil, List.filter_cons, Nat.reduceAdd, Nat.reduceLeDiff, reduceCtorEq, List.length_nil, List.length_cons, Nat.mul_one, if_true, if_false, Bool.false_eq_true, eq_self, and_true, true_and, retL, resultsL, resAllL, resOfL, List.append_nil, List.nil_append, List.cons_append, true_or, or_true, false_or, or_false, false_and, and_false, not_true_eq_false, not_false_eq_true, ne_eq, unL, trim_nil, views_pures, LV.pures, LV.pure, freeze, Nat.reduceDiv, Int.reduceEq, Int.reduceLT, Int.reduceLE, Int.natCast_zero, LV.cells, allocL, List.getElem?_cons_zero, List.getElem?_cons_succ, storeL, spliceL, List.take_zero, List.take_succ_cons, List.drop_zero, List.drop_succ_cons, List.drop_nil, List.take_nil, Nat.le_refl, Nat.reduceMul, List.set_cons_zero, List.set_cons_succ, LV.scalar, List.all_cons, List.all_nil, Nat.lt_add_one, Nat.zero_lt_one, Nat.reduceLT, Nat.lt_irrefl, fillL, List.length_append, foldIntL, kind_beq, pures_int, solids_int, plains_int, unders_int, scalars_int, show ((k : Int) < (L : Int)) by omega, hkL, hl, hkh, nats_length, Nat.zero_add, nats_getD _ _ hkh, bits_shl (show k < 64 by omega), o1, set_hset _ _ _ hkh, h2, int_at _ _ _ h2, hgk, h0, l1, show k + 1 ≤ L by omega, wrap_succ (show k + 1 < 9223372036854775808 by omega), ih]
end Go.Am.Post

