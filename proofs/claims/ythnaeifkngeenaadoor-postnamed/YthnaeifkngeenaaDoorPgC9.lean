import Derived.Test.YthnaeifkngeenaaDoorPgC5
import Derived.Test.YthnaeifkngeenaaDoorPgC8
import Derived.Test.YthnaeifkngeenaaDoorLm13
import Derived.Test.YthnaeifkngeenaaDoorLm14
/-
  What functions of chapter 12 compute, 9: the first of the cheapest posts.
-/
set_option linter.unusedVariables false
set_option linter.unusedSimpArgs false
set_option maxRecDepth 10000
namespace Go.Am.Post
open Go.Am.G

theorem priced1_c (x y : Int) (m : LMem) : clF LP n_post_priced_1 [.int .i64 x, .int .i64 y] m = some (.P, .int .i64 (IntKind.i64.wrap (x + y)), m) := by
  refine call_P lp_post_priced_1 rfl rfl (m1 := []) ?_ rfl m
  simp only [post_priced_1, post_priced_1.B, beqT, beqF, exF_seq, exF_region, exF_block, exF_cond, exF_ret, exF_exit, exF_skip, runL, wantL, stepL, evL, evC, LEnv.at, putL, loadFine, loadL, cellsAt, Trk.putNew, Trk.up, Trk.touch, Trk.gives, Trk.calm, Trk.hit, opdsOf, Trk.fresh, LEnv.keep, LEnv.ofFrom, List.map_cons, List.map_nil, nbeq, nble, nblt, ofAV, ofAVs, lenL, bin_add, bin_sub, bin_mul, bin_eql, bin_neq, bin_lss, bin_leq, bin_gtr, bin_geq, natL_nat, natL_zero, natL_one, natL_two, Nat.zero_mul, List.any_cons, List.any_nil, Bool.or_false, Bool.false_or, Bool.true_or, Bool.or_true, Bool.and_true, Bool.true_and, Bool.and_false, Bool.false_and, Bool.not_true, Bool.not_false, Nat.reduceBEq, Nat.reduceEqDiff, decide_true, decide_false, cond_true, cond_false, List.filter_nil, List.filter_cons, Nat.reduceAdd, Nat.reduceLeDiff, reduceCtorEq, List.length_nil, List.length_cons, Nat.mul_one, if_true, if_false, Bool.false_eq_true, eq_self, and_true, true_and, retL, resultsL, resAllL, resOfL, List.append_nil, List.nil_append, List.cons_append, true_or, or_true, false_or, or_false, false_and, and_false, not_true_eq_false, not_false_eq_true, ne_eq, unL, trim_nil, views_pures, LV.pures, LV.pure, freeze, Nat.reduceDiv, Int.reduceEq, Int.reduceLT, Int.reduceLE, Int.natCast_zero, LV.cells, allocL, List.getElem?_cons_zero, List.getElem?_cons_succ, storeL, spliceL, List.take_zero, List.take_succ_cons, List.drop_zero, List.drop_succ_cons, List.drop_nil, List.take_nil, Nat.le_refl, Nat.reduceMul, List.set_cons_zero, List.set_cons_succ, LV.scalar, List.all_cons, List.all_nil, Nat.lt_add_one, Nat.zero_lt_one, Nat.reduceLT, Nat.lt_irrefl, fillL, List.length_append, foldIntL, kind_beq, pures_int, solids_int, plains_int, unders_int, scalars_int]
theorem priced2_c (x y : Int) (m : LMem) : clF LP n_post_priced_2 [.int .i64 x, .int .i64 y] m = some (.P, .int .i64 (if y < x then y else x), m) := by
  refine call_P lp_post_priced_2 rfl rfl (m1 := []) ?_ rfl m
  simp only [post_priced_2, post_priced_2.B, beqT, beqF, exF_seq, exF_region, exF_block, exF_cond, exF_ret, exF_exit, exF_skip, runL, wantL, stepL, evL, evC, LEnv.at, putL, loadFine, loadL, cellsAt, Trk.putNew, Trk.up, Trk.touch, Trk.gives, Trk.calm, Trk.hit, opdsOf, Trk.fresh, LEnv.keep, LEnv.ofFrom, List.map_cons, List.map_nil, nbeq, nble, nblt, ofAV, ofAVs, lenL, bin_add, bin_sub, bin_mul, bin_eql, bin_neq, bin_lss, bin_leq, bin_gtr, bin_geq, natL_nat, natL_zero, natL_one, natL_two, Nat.zero_mul, List.any_cons, List.any_nil, Bool.or_false, Bool.false_or, Bool.true_or, Bool.or_true, Bool.and_true, Bool.true_and, Bool.and_false, Bool.false_and, Bool.not_true, Bool.not_false, Nat.reduceBEq, Nat.reduceEqDiff, decide_true, decide_false, cond_true, cond_false, List.filter_nil, List.filter_cons, Nat.reduceAdd, Nat.reduceLeDiff, reduceCtorEq, List.length_nil, List.length_cons, Nat.mul_one, if_true, if_false, Bool.false_eq_true, eq_self, and_true, true_and, retL, resultsL, resAllL, resOfL, List.append_nil, List.nil_append, List.cons_append, true_or, or_true, false_or, or_false, false_and, and_false, not_true_eq_false, not_false_eq_true, ne_eq, unL, trim_nil, views_pures, LV.pures, LV.pure, freeze, Nat.reduceDiv, Int.reduceEq, Int.reduceLT, Int.reduceLE, Int.natCast_zero, LV.cells, allocL, List.getElem?_cons_zero, List.getElem?_cons_succ, storeL, spliceL, List.take_zero, List.take_succ_cons, List.drop_zero, List.drop_succ_cons, List.drop_nil, List.take_nil, Nat.le_refl, Nat.reduceMul, List.set_cons_zero, List.set_cons_succ, LV.scalar, List.all_cons, List.all_nil, Nat.lt_add_one, Nat.zero_lt_one, Nat.reduceLT, Nat.lt_irrefl, fillL, List.length_append, foldIntL, kind_beq, pures_int, solids_int, plains_int, unders_int, scalars_int]
theorem same_c (x : Int) (m : LMem) : clF LP n_post_same [.int .i64 x] m = some (.P, .int .i64 1, m) := by
  refine call_P lp_post_same rfl rfl (m1 := []) ?_ rfl m
  simp only [post_same, post_same.B, beqT, beqF, exF_seq, exF_region, exF_block, exF_cond, exF_ret, exF_exit, exF_skip, runL, wantL, stepL, evL, evC, LEnv.at, putL, loadFine, loadL, cellsAt, Trk.putNew, Trk.up, Trk.touch, Trk.gives, Trk.calm, Trk.hit, opdsOf, Trk.fresh, LEnv.keep, LEnv.ofFrom, List.map_cons, List.map_nil, nbeq, nble, nblt, ofAV, ofAVs, lenL, bin_add, bin_sub, bin_mul, bin_eql, bin_neq, bin_lss, bin_leq, bin_gtr, bin_geq, natL_nat, natL_zero, natL_one, natL_two, Nat.zero_mul, List.any_cons, List.any_nil, Bool.or_false, Bool.false_or, Bool.true_or, Bool.or_true, Bool.and_true, Bool.true_and, Bool.and_false, Bool.false_and, Bool.not_true, Bool.not_false, Nat.reduceBEq, Nat.reduceEqDiff, decide_true, decide_false, cond_true, cond_false, List.filter_nil, List.filter_cons, Nat.reduceAdd, Nat.reduceLeDiff, reduceCtorEq, List.length_nil, List.length_cons, Nat.mul_one, if_true, if_false, Bool.false_eq_true, eq_self, and_true, true_and, retL, resultsL, resAllL, resOfL, List.append_nil, List.nil_append, List.cons_append, true_or, or_true, false_or, or_false, false_and, and_false, not_true_eq_false, not_false_eq_true, ne_eq, unL, trim_nil, views_pures, LV.pures, LV.pure, freeze, Nat.reduceDiv, Int.reduceEq, Int.reduceLT, Int.reduceLE, Int.natCast_zero, LV.cells, allocL, List.getElem?_cons_zero, List.getElem?_cons_succ, storeL, spliceL, List.take_zero, List.take_succ_cons, List.drop_zero, List.drop_succ_cons, List.drop_nil, List.take_nil, Nat.le_refl, Nat.reduceMul, List.set_cons_zero, List.set_cons_succ, LV.scalar, List.all_cons, List.all_nil, Nat.lt_add_one, Nat.zero_lt_one, Nat.reduceLT, Nat.lt_irrefl, fillL, List.length_append, foldIntL, kind_beq, pures_int, solids_int, plains_int, unders_int, scalars_int]
/-- What a price is. -/
structure PriceOk (g : Nat) (cap : List LV) (price : Nat → Nat) (n : Nat) : Prop where
  hc : LV.pures cap = true
  hp : ∀ i, i < n → ∀ m, clF LP g (.int .i64 (i : Int) :: cap) m = some (.P, .int .i64 (price i : Int), m)
  le : ∀ i, i < n → price i ≤ 20
theorem PriceOk.rat {g : Nat} {cap : List LV} {price : Nat → Nat} {n : Nat} (H : PriceOk g cap price n) : (minR g cap price).Ok n :=
  ⟨H.hc, H.hp, fun x y m => priced1_c x y m, fun x y m => priced2_c x y m⟩
theorem same_ok (n : Nat) : PriceOk n_post_same [] (fun _ => 1) n := ⟨rfl, fun i _ m => same_c _ m, fun _ _ => by omega⟩
mutual
theorem pure_shift (k : Nat) : ∀ v : LV, v.pure = true → v.shift k = v
  | .func f a b, h => by
    simp only [LV.pure, Bool.and_eq_true] at h
    simp only [LV.shift, pures_shift k a h.1, pures_shift k b h.2]
  | .agg cs, h => by simp only [LV.pure] at h; simp only [LV.shift, pures_shift k cs h]
  | .tup cs, h => by simp only [LV.pure] at h; simp only [LV.shift, pures_shift k cs h]
  | .ptr _ _ _, h | .sl _ _ _ _ _ _ _, h => by simp [LV.pure] at h
  | .undef, _ | .bool _, _ | .int _ _, _ | .nilptr, _ | .nilFunc, _ | .nilIface, _ | .elt _ _, _ | .lst _ _ _ _ _, _ => by simp only [LV.shift]
theorem pures_shift (k : Nat) : ∀ l : List LV, LV.pures l = true → LV.shifts k l = l
  | [], _ => by simp only [LV.shifts]
  | a :: r, h => by
    simp only [LV.pures, Bool.and_eq_true] at h
    simp only [LV.shifts, pure_shift k a h.1, pures_shift k r h.2]
end
mutual
theorem pure_under (k : Nat) : ∀ v : LV, v.pure = true → v.under k = true
  | .func f a b, h => by
    simp only [LV.pure, Bool.and_eq_true] at h
    simp only [LV.under, pures_under k a h.1, pures_under k b h.2, Bool.and_self]
  | .agg cs, h => by simp only [LV.pure] at h; simp only [LV.under, pures_under k cs h]
  | .tup cs, h => by simp only [LV.pure] at h; simp only [LV.under, pures_under k cs h]
  | .ptr _ _ _, h | .sl _ _ _ _ _ _ _, h => by simp [LV.pure] at h
  | .undef, _ | .bool _, _ | .int _ _, _ | .nilptr, _ | .nilFunc, _ | .nilIface, _ | .elt _ _, _ | .lst _ _ _ _ _, _ => by simp only [LV.under]
theorem pures_under (k : Nat) : ∀ l : List LV, LV.pures l = true → LV.unders k l = true
  | [], _ => by simp only [LV.unders]
  | a :: r, h => by
    simp only [LV.pures, Bool.and_eq_true] at h
    simp only [LV.unders, pure_under k a h.1, pures_under k r h.2, Bool.and_self]
end
theorem priced_c (g : Nat) (cap : List LV) (hc : LV.pures cap = true) (m : LMem) :
    clF LP n_post_priced [.func g [] cap] m = some (.O, .ptr m.length 0 7, m ++ [⟨(minR g cap (fun _ => 0)).cells 0 0, true⟩]) := by
  rw [call_O lp_post_priced rfl (by simp [LV.pures, LV.pure, hc]) (v := .ptr 0 0 7) (m1 := [⟨(minR g cap (fun _ => 0)).cells 0 0, true⟩]) ?_ m]
  · simp [LV.shift, LV.shifts]
    exact pures_shift _ cap hc
  · simp only [post_priced, post_priced.B, beqT, beqF, exF_seq, exF_region, exF_block, exF_cond, exF_ret, exF_exit, exF_skip, runL, wantL, stepL, evL, evC, LEnv.at, putL, loadFine, loadL, cellsAt, Trk.putNew, Trk.up, Trk.touch, Trk.gives, Trk.calm, Trk.hit, opdsOf, Trk.fresh, LEnv.keep, LEnv.ofFrom, List.map_cons, List.map_nil, nbeq, nble, nblt, ofAV, ofAVs, lenL, bin_add, bin_sub, bin_mul, bin_eql, bin_neq, bin_lss, bin_leq, bin_gtr, bin_geq, natL_nat, natL_zero, natL_one, natL_two, Nat.zero_mul, List.any_cons, List.any_nil, Bool.or_false, Bool.false_or, Bool.true_or, Bool.or_true, Bool.and_true, Bool.true_and, Bool.and_false, Bool.false_and, Bool.not_true, Bool.not_false, Nat.reduceBEq, Nat.reduceEqDiff, decide_true, decide_false, cond_true, cond_false, List.filter_nil, List.filter_cons, Nat.reduceAdd, Nat.reduceLeDiff, reduceCtorEq, List.length_nil, List.length_cons, Nat.mul_one, if_true, if_false, Bool.false_eq_true, eq_self, and_true, true_and, retL, resultsL, resAllL, resOfL, List.append_nil, List.nil_append, List.cons_append, true_or, or_true, false_or, or_false, false_and, and_false, not_true_eq_false, not_false_eq_true, ne_eq, unL, trim_nil, views_pures, LV.pures, LV.pure, freeze, Nat.reduceDiv, Int.reduceEq, Int.reduceLT, Int.reduceLE, Int.natCast_zero, LV.cells, allocL, List.getElem?_cons_zero, List.getElem?_cons_succ, storeL, spliceL, List.take_zero, List.take_succ_cons, List.drop_zero, List.drop_succ_cons, List.drop_nil, List.take_nil, Nat.le_refl, Nat.reduceMul, List.set_cons_zero, List.set_cons_succ, LV.scalar, List.all_cons, List.all_nil, Nat.lt_add_one, Nat.zero_lt_one, Nat.reduceLT, Nat.lt_irrefl, fillL, List.length_append, foldIntL, kind_beq, pures_int, solids_int, plains_int, unders_int, scalars_int, minR]
    rfl
theorem whole_v (r : Rat) (must mustNot : Nat) (h1 : must < 1024) (h2 : mustNot < 1024) (nl ex : Bool) (sz : Nat) {s : List Int} (K : OkS s) (R : r.Ok s.length) (m : LMem) (i : Nat) (b : Bool) (hm : m[i]? = some ⟨r.cells must mustNot, b⟩) :
    clF LP n_post_rating_int_whole [.ptr i 0 7, IL nl ex sz s] m = some (.P, .int .i64 (wholeV r must mustNot s), m) := by
  have hpu : LV.pures (r.cells must mustNot) = true := by simp [LV.pures, LV.pure, R.hc]
  refine call_view lp_post_rating_int_whole rfl (vs := [.elt (r.cells must mustNot) 0, IL nl ex sz s]) (ids := [i]) ?_ (by simp [LV.pures, LV.pure]) (whole_c r must mustNot h1 h2 nl ex sz K R []) rfl
  refine views_two 32 m _ _ _ _ (fun k => ?_) rfl (by simp [LV.pures, LV.pure])
  simp only [view, hm, viewL_pures _ _ _ hpu]
  rfl

/-- Bits from a place on. -/
def hiB (n i : Nat) : Nat := andN (2 ^ n - 1) (2 ^ i - 1)
theorem pow_pred {n : Nat} (h : n ≤ 10) : 2 ^ n - 1 < 1024 := by
  have : 2 ^ n ≤ 2 ^ 10 := Nat.pow_le_pow_right (by omega) h
  omega
theorem hiB_bit {n : Nat} (h : n ≤ 10) (i v : Nat) : (hiB n i).testBit v = (decide (v < n) && !decide (v < i)) := by
  unfold hiB
  rw [andN_bit _ _ _ (Nat.lt_trans (pow_pred h) (by omega)), Nat.testBit_two_pow_sub_one, Nat.testBit_two_pow_sub_one]
theorem hiB_lt {n : Nat} (h : n ≤ 10) (i : Nat) : hiB n i < 1024 := andN_lt _ _ 10 (pow_pred h) (by omega)
/-- Place by place. -/
def fstP (r : Rat) (s : List Int) (best : Int) : Nat → Nat → Nat → Nat → Nat
  | 0, _, must, _ => must
  | d + 1, i, must, mustNot => if wholeV r must (mustNot ||| hiB s.length i) s = best then must else if wholeV r (must ||| 2 ^ i) mustNot s = best then fstP r s best d (i + 1) (must ||| 2 ^ i) mustNot else fstP r s best d (i + 1) must (mustNot ||| 2 ^ i)
theorem andN_or {a i : Nat} (ha : a < 1024) (hi : i < 10) (h : a.testBit i = false) : andN (a ||| 2 ^ i) (2 ^ i) = a := by
  apply Nat.eq_of_testBit_eq
  intro v
  rw [andN_bit _ _ _ (Nat.lt_trans (Nat.or_lt_two_pow (n := 10) ha (Nat.pow_lt_pow_right (by omega) hi)) (by omega)), Nat.testBit_or, Nat.testBit_two_pow]
  by_cases c : i = v
  · subst c; simp [h]
  · simp [c]
abbrev pc (g : Nat) (cap : List LV) (must mustNot : Nat) : List LV := [.func g [] cap, .int .i64 0, .func n_post_priced_1 [] [], .func n_post_priced_2 [] [], .int .i64 1048576, .int .u64 (must : Int), .int .u64 (mustNot : Int)]
theorem whole_p {g : Nat} {cap : List LV} {price : Nat → Nat} (must mustNot : Nat) (h1 : must < 1024) (h2 : mustNot < 1024) (nl ex : Bool) (sz : Nat) {s : List Int} (K : OkS s) (H : PriceOk g cap price s.length) (m : LMem) (i : Nat) (b : Bool) (hm : m[i]? = some ⟨pc g cap must mustNot, b⟩) :
    clF LP n_post_rating_int_whole [.ptr i 0 7, IL nl ex sz s] m = some (.P, .int .i64 (wholeV (minR g cap price) must mustNot s), m) :=
  whole_v (minR g cap price) must mustNot h1 h2 nl ex sz K H.rat m i b hm
theorem or_lt {a b : Nat} (ha : a < 1024) (hb : b < 1024) : a ||| b < 1024 := Nat.or_lt_two_pow (n := 10) ha hb
theorem first_loop (g : Nat) (cap : List LV) (price : Nat → Nat) (nl ex : Bool) (sz : Nat) {s : List Int} (K : OkS s) (H : PriceOk g cap price s.length) (best : Int) (d : Nat) : ∀ (i must mustNot : Nat), i + d = s.length → must < 1024 → mustNot < 1024 → (∀ v, i ≤ v → must.testBit v = false) →
    fstP (minR g cap price) s best d i must mustNot < 1024 ∧ ((∃ m', exF LP post_first.L0 [(0, IL nl ex sz s), (5, .ptr 0 0 7), (6, .int .i64 best), (15, .int .i64 (s.length : Int)), (16, .int .i64 (i : Int))] [⟨pc g cap must mustNot, true⟩] = some (.ret, [(4, RL (ci (memL (fstP (minR g cap price) s best d i must mustNot))))], m')) ∨
      ∃ mn : Nat, exF LP post_first.L0 [(0, IL nl ex sz s), (5, .ptr 0 0 7), (6, .int .i64 best), (15, .int .i64 (s.length : Int)), (16, .int .i64 (i : Int))] [⟨pc g cap must mustNot, true⟩] = some (.exit 0, [(5, .ptr 0 0 7)], [⟨pc g cap (fstP (minR g cap price) s best d i must mustNot) mn, true⟩])) := by
  have h10 := K.le
  have hcap := pures_under 1 cap H.hc
  induction d with
  | zero =>
    intro i must mustNot hi h1 h2 h3
    refine ⟨h1, .inr ⟨mustNot, ?_⟩⟩
    rw [post_first.L0_eq]
    simp only [post_first.B0, beqT, beqF, exF_seq, exF_region, exF_block, exF_cond, exF_ret, exF_exit, exF_skip, runL, wantL, stepL, evL, evC, LEnv.at, putL, loadFine, loadL, cellsAt, Trk.putNew, Trk.up, Trk.touch, Trk.gives, Trk.calm, Trk.hit, opdsOf, Trk.fresh, LEnv.keep, LEnv.ofFrom, List.map_cons, List.map_nil, nbeq, nble, nblt, ofAV, ofAVs, lenL, bin_add, bin_sub, bin_mul, bin_eql, bin_neq, bin_lss, bin_leq, bin_gtr, bin_geq, natL_nat, natL_zero, natL_one, natL_two, Nat.zero_mul, List.any_cons, List.any_nil, Bool.or_false, Bool.false_or, Bool.true_or, Bool.or_true, Bool.and_true, Bool.true_and, Bool.and_false, Bool.false_and, Bool.not_true, Bool.not_false, Nat.reduceBEq, Nat.reduceEqDiff, decide_true, decide_false, cond_true, cond_false, List.filter_nil, List.filter_cons, Nat.reduceAdd, Nat.reduceLeDiff, reduceCtorEq, List.length_nil, List.length_cons, Nat.mul_one, if_true, if_false, Bool.false_eq_true, eq_self, and_true, true_and, retL, resultsL, resAllL, resOfL, List.append_nil, List.nil_append, List.cons_append, true_or, or_true, false_or, or_false, false_and, and_false, not_true_eq_false, not_false_eq_true, ne_eq, unL, trim_nil, views_pures, LV.pures, LV.pure, freeze, Nat.reduceDiv, Int.reduceEq, Int.reduceLT, Int.reduceLE, Int.natCast_zero, LV.cells, allocL, List.getElem?_cons_zero, List.getElem?_cons_succ, storeL, spliceL, List.take_zero, List.take_succ_cons, List.drop_zero, List.drop_succ_cons, List.drop_nil, List.take_nil, Nat.le_refl, Nat.reduceMul, List.set_cons_zero, List.set_cons_succ, LV.scalar, List.all_cons, List.all_nil, Nat.lt_add_one, Nat.zero_lt_one, Nat.reduceLT, Nat.lt_irrefl, fillL, List.length_append, foldIntL, kind_beq, pures_int, solids_int, plains_int, unders_int, scalars_int, show ¬ ((i : Int) < (s.length : Int)) by omega, fstP]
  | succ d ih =>
    intro i must mustNot hi h1 h2 h3
    have hi10 : i < 10 := by omega
    have hpi : 2 ^ i < 1024 := (Nat.pow_lt_pow_right (by omega) hi10 : 2 ^ i < 2 ^ 10)
    have hpn : 2 ^ s.length < 18446744073709551616 := Nat.lt_of_le_of_lt (Nat.pow_le_pow_right (n := 2) (by omega) h10) (by omega)
    have hn0 : 0 < 2 ^ s.length := Nat.pow_pos (by omega)
    have hi0 : 0 < 2 ^ i := Nat.pow_pos (by omega)
    have hh := hiB_lt h10 i
    have o1 := bits_pred hpn hn0
    have o2 := bits_pred (show 2 ^ i < 18446744073709551616 by omega) hi0
    have o3 : binL .andNot (.int .u64 ((2 ^ s.length - 1 : Nat) : Int)) (.int .u64 ((2 ^ i - 1 : Nat) : Int)) = some (.int .u64 ((hiB s.length i : Nat) : Int)) := bits_andNot (by omega) (by omega)
    have o4 := bits_or (show mustNot < 18446744073709551616 by omega) (show hiB s.length i < 18446744073709551616 by omega)
    have o5 := bits_or (show must < 18446744073709551616 by omega) (show 2 ^ i < 18446744073709551616 by omega)
    have o6 := bits_or (show mustNot < 18446744073709551616 by omega) (show 2 ^ i < 18446744073709551616 by omega)
    have l1 := or_lt h2 hh
    have l2 := or_lt h1 hpi
    have l3 := or_lt h2 hpi
    have o7 := bits_andNot (show must ||| 2 ^ i < 18446744073709551616 by omega) (show 2 ^ i < 18446744073709551616 by omega)
    rw [andN_or h1 hi10 (h3 i (Nat.le_refl _))] at o7
    have w1 := whole_p must (mustNot ||| hiB s.length i) h1 l1 nl ex sz K H [⟨pc g cap must mustNot, true⟩, ⟨pc g cap must (mustNot ||| hiB s.length i), true⟩] 1 true rfl
    have w2 := whole_p (must ||| 2 ^ i) mustNot l2 h2 nl ex sz K H [⟨pc g cap (must ||| 2 ^ i) mustNot, true⟩, ⟨pc g cap must (mustNot ||| hiB s.length i), true⟩] 0 true rfl
    have hm := fun m => members_c must (by omega) m
    have e1 : ∀ x, fstP (minR g cap price) s best (d + 1) i must mustNot = x ↔ (if wholeV (minR g cap price) must (mustNot ||| hiB s.length i) s = best then must else if wholeV (minR g cap price) (must ||| 2 ^ i) mustNot s = best then fstP (minR g cap price) s best d (i + 1) (must ||| 2 ^ i) mustNot else fstP (minR g cap price) s best d (i + 1) must (mustNot ||| 2 ^ i)) = x := fun x => by rw [fstP]
    have e1 := (e1 _).2 rfl
    rw [e1, post_first.L0_eq]
    by_cases c1 : wholeV (minR g cap price) must (mustNot ||| hiB s.length i) s = best
    · simp only [if_pos c1]
      refine ⟨h1, .inl ⟨[⟨pc g cap must mustNot, true⟩, ⟨pc g cap must (mustNot ||| hiB s.length i), true⟩], ?_⟩⟩
      simp only [post_first.B0, beqT, beqF, exF_seq, exF_region, exF_block, exF_cond, exF_ret, exF_exit, exF_skip, runL, wantL, stepL, evL, evC, LEnv.at, putL, loadFine, loadL, cellsAt, Trk.putNew, Trk.up, Trk.touch, Trk.gives, Trk.calm, Trk.hit, opdsOf, Trk.fresh, LEnv.keep, LEnv.ofFrom, List.map_cons, List.map_nil, nbeq, nble, nblt, ofAV, ofAVs, lenL, bin_add, bin_sub, bin_mul, bin_eql, bin_neq, bin_lss, bin_leq, bin_gtr, bin_geq, natL_nat, natL_zero, natL_one, natL_two, Nat.zero_mul, List.any_cons, List.any_nil, Bool.or_false, Bool.false_or, Bool.true_or, Bool.or_true, Bool.and_true, Bool.true_and, Bool.and_false, Bool.false_and, Bool.not_true, Bool.not_false, Nat.reduceBEq, Nat.reduceEqDiff, decide_true, decide_false, cond_true, cond_false, List.filter_nil, List.filter_cons, Nat.reduceAdd, Nat.reduceLeDiff, reduceCtorEq, List.length_nil, List.length_cons, Nat.mul_one, if_true, if_false, Bool.false_eq_true, eq_self, and_true, true_and, retL, resultsL, resAllL, resOfL, List.append_nil, List.nil_append, List.cons_append, true_or, or_true, false_or, or_false, false_and, and_false, not_true_eq_false, not_false_eq_true, ne_eq, unL, trim_nil, views_pures, LV.pures, LV.pure, freeze, Nat.reduceDiv, Int.reduceEq, Int.reduceLT, Int.reduceLE, Int.natCast_zero, LV.cells, allocL, List.getElem?_cons_zero, List.getElem?_cons_succ, storeL, spliceL, List.take_zero, List.take_succ_cons, List.drop_zero, List.drop_succ_cons, List.drop_nil, List.take_nil, Nat.le_refl, Nat.reduceMul, List.set_cons_zero, List.set_cons_succ, LV.scalar, List.all_cons, List.all_nil, Nat.lt_add_one, Nat.zero_lt_one, Nat.reduceLT, Nat.lt_irrefl, fillL, List.length_append, foldIntL, kind_beq, pures_int, solids_int, plains_int, unders_int, scalars_int, show ((i : Int) < (s.length : Int)) by omega, bits_shl (show s.length < 64 by omega), bits_shl (show i < 64 by omega), o1, o2, o3, o4, Nat.add_zero, Nat.zero_add, w1, c1, hm]
    · simp only [if_neg c1]
      by_cases c2 : wholeV (minR g cap price) (must ||| 2 ^ i) mustNot s = best
      · simp only [if_pos c2]
        have ih := ih (i + 1) (must ||| 2 ^ i) mustNot (by omega) l2 h2 (fun v hv => by rw [Nat.testBit_or, Nat.testBit_two_pow, h3 v (by omega)]; simp; omega)
        simp only [post_first.B0, beqT, beqF, exF_seq, exF_region, exF_block, exF_cond, exF_ret, exF_exit, exF_skip, runL, wantL, stepL, evL, evC, LEnv.at, putL, loadFine, loadL, cellsAt, Trk.putNew, Trk.up, Trk.touch, Trk.gives, Trk.calm, Trk.hit, opdsOf, Trk.fresh, LEnv.keep, LEnv.ofFrom, List.map_cons, List.map_nil, nbeq, nble, nblt, ofAV, ofAVs, lenL, bin_add, bin_sub, bin_mul, bin_eql, bin_neq, bin_lss, bin_leq, bin_gtr, bin_geq, natL_nat, natL_zero, natL_one, natL_two, Nat.zero_mul, List.any_cons, List.any_nil, Bool.or_false, Bool.false_or, Bool.true_or, Bool.or_true, Bool.and_true, Bool.true_and, Bool.and_false, Bool.false_and, Bool.not_true, Bool.not_false, Nat.reduceBEq, Nat.reduceEqDiff, decide_true, decide_false, cond_true, cond_false, List.filter_nil, List.filter_cons, Nat.reduceAdd, Nat.reduceLeDiff, reduceCtorEq, List.length_nil, List.length_cons, Nat.mul_one, if_true, if_false, Bool.false_eq_true, eq_self, and_true, true_and, retL, resultsL, resAllL, resOfL, List.append_nil, List.nil_append, List.cons_append, true_or, or_true, false_or, or_false, false_and, and_false, not_true_eq_false, not_false_eq_true, ne_eq, unL, trim_nil, views_pures, LV.pures, LV.pure, freeze, Nat.reduceDiv, Int.reduceEq, Int.reduceLT, Int.reduceLE, Int.natCast_zero, LV.cells, allocL, List.getElem?_cons_zero, List.getElem?_cons_succ, storeL, spliceL, List.take_zero, List.take_succ_cons, List.drop_zero, List.drop_succ_cons, List.drop_nil, List.take_nil, Nat.le_refl, Nat.reduceMul, List.set_cons_zero, List.set_cons_succ, LV.scalar, List.all_cons, List.all_nil, Nat.lt_add_one, Nat.zero_lt_one, Nat.reduceLT, Nat.lt_irrefl, fillL, List.length_append, foldIntL, kind_beq, pures_int, solids_int, plains_int, unders_int, scalars_int, show ((i : Int) < (s.length : Int)) by omega, bits_shl (show s.length < 64 by omega), bits_shl (show i < 64 by omega), o1, o2, o3, o4, o5, Nat.add_zero, Nat.zero_add, w1, w2, c1, c2, trim, belowM, envVals, LV.unders, LV.under, hcap, wrap_succ (show i + 1 < 9223372036854775808 by omega)]
        exact ih
      · simp only [if_neg c2]
        have ih := ih (i + 1) must (mustNot ||| 2 ^ i) (by omega) h1 l3 (fun v hv => h3 v (by omega))
        simp only [post_first.B0, beqT, beqF, exF_seq, exF_region, exF_block, exF_cond, exF_ret, exF_exit, exF_skip, runL, wantL, stepL, evL, evC, LEnv.at, putL, loadFine, loadL, cellsAt, Trk.putNew, Trk.up, Trk.touch, Trk.gives, Trk.calm, Trk.hit, opdsOf, Trk.fresh, LEnv.keep, LEnv.ofFrom, List.map_cons, List.map_nil, nbeq, nble, nblt, ofAV, ofAVs, lenL, bin_add, bin_sub, bin_mul, bin_eql, bin_neq, bin_lss, bin_leq, bin_gtr, bin_geq, natL_nat, natL_zero, natL_one, natL_two, Nat.zero_mul, List.any_cons, List.any_nil, Bool.or_false, Bool.false_or, Bool.true_or, Bool.or_true, Bool.and_true, Bool.true_and, Bool.and_false, Bool.false_and, Bool.not_true, Bool.not_false, Nat.reduceBEq, Nat.reduceEqDiff, decide_true, decide_false, cond_true, cond_false, List.filter_nil, List.filter_cons, Nat.reduceAdd, Nat.reduceLeDiff, reduceCtorEq, List.length_nil, List.length_cons, Nat.mul_one, if_true, if_false, Bool.false_eq_true, eq_self, and_true, true_and, retL, resultsL, resAllL, resOfL, List.append_nil, List.nil_append, List.cons_append, true_or, or_true, false_or, or_false, false_and, and_false, not_true_eq_false, not_false_eq_true, ne_eq, unL, trim_nil, views_pures, LV.pures, LV.pure, freeze, Nat.reduceDiv, Int.reduceEq, Int.reduceLT, Int.reduceLE, Int.natCast_zero, LV.cells, allocL, List.getElem?_cons_zero, List.getElem?_cons_succ, storeL, spliceL, List.take_zero, List.take_succ_cons, List.drop_zero, List.drop_succ_cons, List.drop_nil, List.take_nil, Nat.le_refl, Nat.reduceMul, List.set_cons_zero, List.set_cons_succ, LV.scalar, List.all_cons, List.all_nil, Nat.lt_add_one, Nat.zero_lt_one, Nat.reduceLT, Nat.lt_irrefl, fillL, List.length_append, foldIntL, kind_beq, pures_int, solids_int, plains_int, unders_int, scalars_int, show ((i : Int) < (s.length : Int)) by omega, bits_shl (show s.length < 64 by omega), bits_shl (show i < 64 by omega), o1, o2, o3, o4, o5, o6, o7, Nat.add_zero, Nat.zero_add, w1, w2, c1, c2, trim, belowM, envVals, LV.unders, LV.under, hcap, wrap_succ (show i + 1 < 9223372036854775808 by omega)]
        exact ih
/-- The first of the cheapest posts, as a set. -/
def firstM (r : Rat) (s : List Int) : Nat := fstP r s (wholeV r 0 0 s) s.length 0 0 0
theorem first_c (g : Nat) (cap : List LV) (price : Nat → Nat) (nl ex : Bool) (sz : Nat) {s : List Int} (K : OkS s) (H : PriceOk g cap price s.length) (m : LMem) :
    clF LP n_post_first [IL nl ex sz s, .func g [] cap] m = some (.P, RL (ci (memL (firstM (minR g cap price) s))), m) := by
  have hpr : ∀ m, clF LP n_post_priced [.func g [] cap] m = some (.O, .ptr m.length 0 7, m ++ [⟨pc g cap 0 0, true⟩]) := fun m => priced_c g cap H.hc m
  have w0 := whole_p 0 0 (by omega) (by omega) nl ex sz K H [⟨pc g cap 0 0, true⟩] 0 true rfl
  obtain ⟨hq, hl⟩ := first_loop g cap price nl ex sz K H (wholeV (minR g cap price) 0 0 s) s.length 0 0 0 (by omega) (by omega) (by omega) (by simp)
  change firstM (minR g cap price) s < 1024 at hq
  have hm := fun m => members_c (firstM (minR g cap price) s) (by omega) m
  simp only [pc, Int.natCast_zero] at hl w0 hpr
  rcases hl with ⟨m', h⟩ | ⟨mn, h⟩
  · change exF LP post_first.L0 _ _ = some (.ret, [(4, RL (ci (memL (firstM (minR g cap price) s))))], m') at h
    refine call_P lp_post_first rfl (by simp [LV.pures, LV.pure, H.hc]) (m1 := m') ?_ (by simp [LV.pure, LV.pures]) m
    simp only [post_first, post_first.B, beqT, beqF, exF_seq, exF_region, exF_block, exF_cond, exF_ret, exF_exit, exF_skip, runL, wantL, stepL, evL, evC, LEnv.at, putL, loadFine, loadL, cellsAt, Trk.putNew, Trk.up, Trk.touch, Trk.gives, Trk.calm, Trk.hit, opdsOf, Trk.fresh, LEnv.keep, LEnv.ofFrom, List.map_cons, List.map_nil, nbeq, nble, nblt, ofAV, ofAVs, lenL, bin_add, bin_sub, bin_mul, bin_eql, bin_neq, bin_lss, bin_leq, bin_gtr, bin_geq, natL_nat, natL_zero, natL_one, natL_two, Nat.zero_mul, List.any_cons, List.any_nil, Bool.or_false, Bool.false_or, Bool.true_or, Bool.or_true, Bool.and_true, Bool.true_and, Bool.and_false, Bool.false_and, Bool.not_true, Bool.not_false, Nat.reduceBEq, Nat.reduceEqDiff, decide_true, decide_false, cond_true, cond_false, List.filter_nil, List.filter_cons, Nat.reduceAdd, Nat.reduceLeDiff, reduceCtorEq, List.length_nil, List.length_cons, Nat.mul_one, if_true, if_false, Bool.false_eq_true, eq_self, and_true, true_and, retL, resultsL, resAllL, resOfL, List.append_nil, List.nil_append, List.cons_append, true_or, or_true, false_or, or_false, false_and, and_false, not_true_eq_false, not_false_eq_true, ne_eq, unL, trim_nil, views_pures, LV.pures, LV.pure, freeze, Nat.reduceDiv, Int.reduceEq, Int.reduceLT, Int.reduceLE, Int.natCast_zero, LV.cells, allocL, List.getElem?_cons_zero, List.getElem?_cons_succ, storeL, spliceL, List.take_zero, List.take_succ_cons, List.drop_zero, List.drop_succ_cons, List.drop_nil, List.take_nil, Nat.le_refl, Nat.reduceMul, List.set_cons_zero, List.set_cons_succ, LV.scalar, List.all_cons, List.all_nil, Nat.lt_add_one, Nat.zero_lt_one, Nat.reduceLT, Nat.lt_irrefl, fillL, List.length_append, foldIntL, kind_beq, pures_int, solids_int, plains_int, unders_int, scalars_int, hpr, w0, h]
  · change exF LP post_first.L0 _ _ = some (.exit 0, _, [⟨pc g cap (firstM (minR g cap price) s) mn, true⟩]) at h
    refine call_P lp_post_first rfl (by simp [LV.pures, LV.pure, H.hc]) (m1 := [⟨pc g cap (firstM (minR g cap price) s) mn, true⟩]) ?_ (by simp [LV.pure, LV.pures]) m
    simp only [post_first, post_first.B, beqT, beqF, exF_seq, exF_region, exF_block, exF_cond, exF_ret, exF_exit, exF_skip, runL, wantL, stepL, evL, evC, LEnv.at, putL, loadFine, loadL, cellsAt, Trk.putNew, Trk.up, Trk.touch, Trk.gives, Trk.calm, Trk.hit, opdsOf, Trk.fresh, LEnv.keep, LEnv.ofFrom, List.map_cons, List.map_nil, nbeq, nble, nblt, ofAV, ofAVs, lenL, bin_add, bin_sub, bin_mul, bin_eql, bin_neq, bin_lss, bin_leq, bin_gtr, bin_geq, natL_nat, natL_zero, natL_one, natL_two, Nat.zero_mul, List.any_cons, List.any_nil, Bool.or_false, Bool.false_or, Bool.true_or, Bool.or_true, Bool.and_true, Bool.true_and, Bool.and_false, Bool.false_and, Bool.not_true, Bool.not_false, Nat.reduceBEq, Nat.reduceEqDiff, decide_true, decide_false, cond_true, cond_false, List.filter_nil, List.filter_cons, Nat.reduceAdd, Nat.reduceLeDiff, reduceCtorEq, List.length_nil, List.length_cons, Nat.mul_one, if_true, if_false, Bool.false_eq_true, eq_self, and_true, true_and, retL, resultsL, resAllL, resOfL, List.append_nil, List.nil_append, List.cons_append, true_or, or_true, false_or, or_false, false_and, and_false, not_true_eq_false, not_false_eq_true, ne_eq, unL, trim_nil, views_pures, LV.pures, LV.pure, freeze, Nat.reduceDiv, Int.reduceEq, Int.reduceLT, Int.reduceLE, Int.natCast_zero, LV.cells, allocL, List.getElem?_cons_zero, List.getElem?_cons_succ, storeL, spliceL, List.take_zero, List.take_succ_cons, List.drop_zero, List.drop_succ_cons, List.drop_nil, List.take_nil, Nat.le_refl, Nat.reduceMul, List.set_cons_zero, List.set_cons_succ, LV.scalar, List.all_cons, List.all_nil, Nat.lt_add_one, Nat.zero_lt_one, Nat.reduceLT, Nat.lt_irrefl, fillL, List.length_append, foldIntL, kind_beq, pures_int, solids_int, plains_int, unders_int, scalars_int, hpr, w0, h, hm, Nat.zero_add]
end Go.Am.Post

/-
  Plain: what is found place by place is the first of the cheapest posts. No statement of the seat is proved here.
-/
set_option linter.unusedVariables false
set_option linter.unusedSimpArgs false
namespace Go.Am.Post
open SR Go.Am.G

theorem wh_congr (par : Nat → Nat) (n : Nat) (price : Nat → Nat) {a a' c c' : Nat → Bool} (ha : ∀ v, v < n → a v = a' v) (hc : ∀ v, v < n → c v = c' v) : wh par n price a c = wh par n price a' c' := by
  unfold wh
  refine sumL_congr _ _ _ fun S _ => ?_
  have : allN (okS par a c S) n = allN (okS par a' c' S) n := by
    rw [Bool.eq_iff_iff, okS_iff, okS_iff]
    constructor
    · rintro ⟨h1, h2, h3⟩
      exact ⟨h1, fun v hv h => h2 v hv (by rw [ha v hv]; exact h), fun v hv h => by rw [← hc v hv]; exact h3 v hv h⟩
    · rintro ⟨h1, h2, h3⟩
      exact ⟨h1, fun v hv h => h2 v hv (by rw [← ha v hv]; exact h), fun v hv h => by rw [hc v hv]; exact h3 v hv h⟩
  rw [this]
theorem memL_mask {n : Nat} (hn : n ≤ 10) {M : List Nat} (hM : M ∈ asc 0 n) : memL (maskN M 0) = M := by
  have hm := (mem_asc _ _ _).1 hM
  refine up_ext (i := 0) (up_filter _ (up_range' 10 0)) hm.1 fun x => ?_
  show x ∈ (List.range' 0 10).filter _ ↔ _
  rw [List.mem_filter, maskN_bit, Nat.zero_testBit, Bool.false_or, decide_eq_true_eq, List.mem_range']
  constructor
  · rintro ⟨_, h⟩; exact h
  · intro h; have := hm.2 x h; exact ⟨⟨x, by omega, by omega⟩, h⟩
/-- A cost that is at most a number is told by the program's rating. -/
theorem whole_iff {s : List Int} (K : OkS s) (g : Nat) (cap : List LV) (price : Nat → Nat) (hp : ∀ i, i < s.length → price i ≤ 20) (must mustNot b : Nat) (hb : b ≤ 1000) :
    wholeV (minR g cap price) must mustNot s = (b : Int) ↔ wh (par s) s.length price (fun v => must.testBit v) (fun v => mustNot.testBit v) = some b := by
  have h := wh_eq K g cap price hp must mustNot
  generalize wholeV (minR g cap price) must mustNot s = x at *
  generalize wh (par s) s.length price (fun v => must.testBit v) (fun v => mustNot.testBit v) = y at *
  cases y with
  | none => simp only [RMin] at h; simp; omega
  | some c => simp only [RMin] at h; rw [Option.some.injEq, h.1]; omega
theorem cost_le (price : Nat → Nat) (n : Nat) (hp : ∀ i, i < n → price i ≤ 20) : ∀ S : List Nat, (∀ x ∈ S, x < n) → cost price S ≤ 20 * S.length
  | [], _ => by simp [cost]
  | x :: r, h => by
    have := cost_le price n hp r fun y hy => h y (by simp [hy])
    have := hp x (h x (by simp))
    simp only [cost, List.map_cons, List.sum_cons, List.length_cons] at *
    omega
theorem fst_first {s : List Int} (K : OkS s) (g : Nat) (cap : List LV) (price : Nat → Nat) (hp : ∀ i, i < s.length → price i ≤ 20) (b : Nat) (hb : b ≤ 1000) (d : Nat) : ∀ (i : Nat) (M : List Nat) (mustNot : Nat), i + d = s.length → M ∈ asc 0 i → (∀ v, v < s.length → mustNot.testBit v = (decide (v < i) && !decide (v ∈ M))) →
    fstP (minR g cap price) s (b : Int) d i (maskN M 0) mustNot = maskN (firstG (hereC (par s) s.length price b) (moreC (par s) s.length price b) d i M) 0 := by
  induction d with
  | zero => intro i M mn _ _ _; rfl
  | succ d ih =>
    intro i M mn hi hM hmn
    have h10 := K.le
    have hMm := (mem_asc _ _ _).1 hM
    rw [fstP, firstG]
    have e1 : (wholeV (minR g cap price) (maskN M 0) (mn ||| hiB s.length i) s = (b : Int)) ↔ hereC (par s) s.length price b M i = true := by
      rw [whole_iff K g cap price hp _ _ b hb, hereC, decide_eq_true_eq]
      rw [wh_congr (par s) s.length price (a' := fun v => decide (v ∈ M)) (c' := fun v => decide (v ∉ M))]
      · intro v _; rw [maskN_bit]; simp
      · intro v hv
        rw [Nat.testBit_or, hmn v hv, hiB_bit h10]
        by_cases c : v < i
        · simp [c]
        · have : v ∉ M := fun h => by have := hMm.2 v h; omega
          simp [c, hv, this]
    have e2 : (wholeV (minR g cap price) (maskN M 0 ||| 2 ^ i) mn s = (b : Int)) ↔ moreC (par s) s.length price b M i = true := by
      rw [whole_iff K g cap price hp _ _ b hb, moreC, decide_eq_true_eq]
      rw [wh_congr (par s) s.length price (a' := fun v => decide (v ∈ M ∨ v = i)) (c' := fun v => decide (v < i ∧ v ∉ M))]
      · intro v _; rw [Nat.testBit_or, maskN_bit, Nat.testBit_two_pow]
        rw [Bool.eq_iff_iff]; simp only [Nat.zero_testBit, Bool.false_or, Bool.or_eq_true, decide_eq_true_eq, eq_comm (a := i)]
      · intro v hv
        rw [hmn v hv, Bool.eq_iff_iff]; simp
    have hM1 : M ++ [i] ∈ asc 0 (i + 1) := (mem_asc _ _ _).2 ⟨up_append hMm.1 (fun x hx => by have := hMm.2 x hx; omega) (show up i [i] from ⟨Nat.le_refl _, trivial⟩) (by omega), fun x hx => by
      rcases List.mem_append.1 hx with hx | hx
      · have := hMm.2 x hx; omega
      · simp at hx; omega⟩
    have hM2 : M ∈ asc 0 (i + 1) := (mem_asc _ _ _).2 ⟨hMm.1, fun x hx => by have := hMm.2 x hx; omega⟩
    by_cases c1 : wholeV (minR g cap price) (maskN M 0) (mn ||| hiB s.length i) s = (b : Int)
    · rw [if_pos c1, if_pos (e1.1 c1)]
    · rw [if_neg c1, if_neg (fun h => c1 (e1.2 h))]
      by_cases c2 : wholeV (minR g cap price) (maskN M 0 ||| 2 ^ i) mn s = (b : Int)
      · rw [if_pos c2, if_pos (e2.1 c2)]
        have em : maskN M 0 ||| 2 ^ i = maskN (M ++ [i]) 0 := by
          apply Nat.eq_of_testBit_eq
          intro v
          rw [Nat.testBit_or, maskN_bit, maskN_bit, Nat.testBit_two_pow, Bool.eq_iff_iff]
          simp only [Nat.zero_testBit, Bool.false_or, Bool.or_eq_true, decide_eq_true_eq, List.mem_append, List.mem_singleton, eq_comm (a := i)]
        rw [em]
        refine ih (i + 1) (M ++ [i]) mn (by omega) hM1 fun v hv => ?_
        rw [hmn v hv, Bool.eq_iff_iff]
        simp only [Bool.and_eq_true, decide_eq_true_eq, Bool.not_eq_true', decide_eq_false_iff_not, List.mem_append, List.mem_singleton, not_or]
        constructor
        · rintro ⟨a, b⟩; exact ⟨by omega, b, by omega⟩
        · rintro ⟨a, b, c⟩; exact ⟨by omega, b⟩
      · rw [if_neg c2, if_neg (fun h => c2 (e2.2 h))]
        refine ih (i + 1) M (mn ||| 2 ^ i) (by omega) hM2 fun v hv => ?_
        rw [Nat.testBit_or, hmn v hv, Nat.testBit_two_pow, Bool.eq_iff_iff]
        simp only [Bool.and_eq_true, decide_eq_true_eq, Bool.not_eq_true', decide_eq_false_iff_not, Bool.or_eq_true]
        constructor
        · rintro (⟨a, b⟩ | a)
          · exact ⟨by omega, b⟩
          · subst a; exact ⟨by omega, fun h => by have := hMm.2 _ h; omega⟩
        · rintro ⟨a, b⟩
          by_cases c : i = v
          · exact .inr c
          · exact .inl ⟨by omega, b⟩
/-- The least cost, and the first posts that have it. -/
def bestC (s : List Int) (price : Nat → Nat) : Nat := (wh (par s) s.length price (fun _ => false) (fun _ => false)).getD 0
def firstS (s : List Int) (price : Nat → Nat) : List Nat := firstG (hereC (par s) s.length price (bestC s price)) (moreC (par s) s.length price (bestC s price)) s.length 0 []
theorem best_ok (s : List Int) (price : Nat → Nat) : wh (par s) s.length price (fun _ => false) (fun _ => false) = some (bestC s price) := by
  obtain ⟨b, hb, _⟩ := wh_best (par s) s.length price
  rw [bestC, hb]; rfl
theorem best_le {s : List Int} (K : OkS s) (price : Nat → Nat) (hp : ∀ i, i < s.length → price i ≤ 20) : bestC s price ≤ 200 := by
  obtain ⟨b, hb, h⟩ := wh_best (par s) s.length price
  have e := best_ok s price
  rw [hb] at e
  have e := Option.some.inj e
  have := cost_le price s.length hp (List.range s.length) fun x hx => by simpa using hx
  have := K.le
  simp only [List.length_range] at *
  omega
theorem firstS_find (s : List Int) (price : Nat → Nat) : (asc 0 s.length).find? (goodC (par s) s.length price (bestC s price)) = some (firstS s price) := firstC_ok (par s) s.length price _ (best_ok s price)
theorem firstS_asc (s : List Int) (price : Nat → Nat) : firstS s price ∈ asc 0 s.length := List.mem_of_find?_eq_some (firstS_find s price)
theorem first_eq {s : List Int} (K : OkS s) (g : Nat) (cap : List LV) (price : Nat → Nat) (hp : ∀ i, i < s.length → price i ≤ 20) : memL (firstM (minR g cap price) s) = firstS s price := by
  have hb := best_le K price hp
  have e : wholeV (minR g cap price) 0 0 s = (bestC s price : Int) := by
    rw [whole_iff K g cap price hp 0 0 _ (by omega), ← best_ok s price]
    exact wh_congr _ _ _ (fun v _ => Nat.zero_testBit v) (fun v _ => Nat.zero_testBit v)
  rw [firstM, e]
  have := fst_first K g cap price hp (bestC s price) (by omega) s.length 0 [] 0 (by omega) (by simp [asc]) (fun v _ => by simp)
  rw [show maskN [] 0 = 0 from rfl] at this
  rw [this]
  exact memL_mask K.le (firstS_asc s price)
end Go.Am.Post

/-
  What functions of chapter 12 compute, 10: the reference's lists of places.
-/
set_option linter.unusedVariables false
set_option linter.unusedSimpArgs false
set_option maxRecDepth 10000
namespace Go.Am.Post
open Go.Am.G

abbrev RLn (l : List Nat) : LV := RL (ci l)
end Go.Am.Post

/-
  What functions of chapter 12 compute, 11: the reference's lists that guard, and the smallest ones.
-/
set_option linter.unusedVariables false
set_option linter.unusedSimpArgs false
set_option maxRecDepth 10000
namespace Go.Am.Post
open Go.Am.G

/-- All posts that guard, in ascending order. -/
def gs (s : List Int) : List (List Nat) := (asc 0 s.length).filter (grdB s)
theorem nb_adj {s : List Int} (K : OkS s) {v u : Nat} (hv : v < s.length) (hu : u < s.length) : nb s v u = true ↔ u = v ∨ adj (par s) v u = true := by
  unfold nb adj par
  rw [if_pos hv, if_pos hu]
  simp only [Bool.or_eq_true, decide_eq_true_eq, Bool.and_eq_true]
  have f1 : v ≠ 0 → 0 ≤ s.getD v 0 := fun h => (K.hi v (by omega) hv).1
  have f2 : u ≠ 0 → 0 ≤ s.getD u 0 := fun h => (K.hi u (by omega) hu).1
  have h0 := K.h0
  constructor
  · rintro (h | h | h)
    · exact .inl h
    · right; right
      have : u ≠ 0 := by intro c; subst c; omega
      exact ⟨this, by omega⟩
    · right; left
      have : v ≠ 0 := by intro c; subst c; omega
      exact ⟨this, by omega⟩
  · rintro (h | ⟨h1, h2⟩ | ⟨h1, h2⟩)
    · exact .inl h
    · have := f1 h1; right; right; omega
    · have := f2 h1; right; left; omega
theorem grd_dom {s : List Int} (K : OkS s) {S : List Nat} (hS : S ∈ asc 0 s.length) : grdB s S = dom (par s) s.length S := by
  rw [Bool.eq_iff_iff, dom, allN_iff, grdB, List.all_eq_true]
  simp only [List.mem_range, okS]
  have hlt := asc_lt hS
  constructor
  · intro h v hv
    have := h v hv
    by_cases c : v ∈ S
    · simp [c]
    · simp only [c, if_false, Bool.not_false, Bool.and_true]
      rw [List.any_eq_true] at this ⊢
      obtain ⟨u, hu, h3⟩ := this
      rcases (nb_adj K hv (hlt u hu)).1 h3 with rfl | h4
      · exact absurd hu c
      · exact ⟨u, hu, h4⟩
  · intro h v hv
    have := h v hv
    by_cases c : v ∈ S
    · rw [List.any_eq_true]
      exact ⟨v, c, by simp [nb]⟩
    · simp only [c, if_false, Bool.not_false, Bool.and_true] at this
      rw [List.any_eq_true] at this ⊢
      obtain ⟨u, hu, h3⟩ := this
      exact ⟨u, hu, (nb_adj K hv (hlt u hu)).2 (.inr h3)⟩
theorem gs_dom {s : List Int} (K : OkS s) : gs s = (asc 0 s.length).filter (dom (par s) s.length) := by
  unfold gs
  exact List.filter_congr fun S hS => grd_dom K hS
end Go.Am.Post


