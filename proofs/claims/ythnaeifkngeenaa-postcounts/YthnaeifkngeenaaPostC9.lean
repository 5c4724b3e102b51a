/-
  What functions of chapter 12 compute, 9: the first of the cheapest posts.
-/
import Derived.Test.YthnaeifkngeenaaPostC6
import Derived.Test.YthnaeifkngeenaaPostP6
import Derived.Test.YthnaeifkngeenaaLm13
set_option linter.unusedVariables false
set_option linter.unusedSimpArgs false
set_option maxRecDepth 10000
namespace Go.Am.Post
open Go.Am.G

theorem priced1_c (x y : Int) (m : LMem) : clF LP n_post_priced_1 [.int .i64 x, .int .i64 y] m = some (.P, .int .i64 (IntKind.i64.wrap (x + y)), m) := by
  refine call_P lp_post_priced_1 rfl rfl (m1 := []) ?_ rfl m
  simp only [post_priced_1, post_priced_1.B, beqT, beqF, exF_seq, exF_region, exF_block, exF_cond, exF_ret, exF_exit, exF_skip, runL, wantL, stepL, evL, LEnv.at, putL, loadFine, loadL, cellsAt, Trk.putNew, Trk.up, Trk.touch, Trk.gives, Trk.calm, Trk.hit, opdsOf, Trk.fresh, LEnv.keep, LEnv.ofFrom, List.map_cons, List.map_nil, nbeq, nble, nblt, ofAV, ofAVs, lenL, bin_add, bin_sub, bin_mul, bin_eql, bin_neq, bin_lss, bin_leq, bin_gtr, bin_geq, natL_nat, natL_zero, natL_one, natL_two, Nat.zero_mul, List.any_cons, List.any_nil, Bool.or_false, Bool.false_or, Bool.true_or, Bool.or_true, Bool.and_true, Bool.true_and, Bool.and_false, Bool.false_and, Bool.not_true, Bool.not_false, Nat.reduceBEq, Nat.reduceEqDiff, decide_true, decide_false, cond_true, cond_false, List.filter_nil, List.filter_cons, Nat.reduceAdd, Nat.reduceLeDiff, reduceCtorEq, List.length_nil, List.length_cons, Nat.mul_one, if_true, if_false, Bool.false_eq_true, eq_self, and_true, true_and, retL, resultsL, resAllL, resOfL, List.append_nil, List.nil_append, List.cons_append, true_or, or_true, false_or, or_false, false_and, and_false, not_true_eq_false, not_false_eq_true, ne_eq, unL, trim_nil, views_pures, LV.pures, LV.pure, freeze, Nat.reduceDiv, Int.reduceEq, Int.reduceLT, Int.reduceLE, Int.natCast_zero, LV.cells, allocL, List.getElem?_cons_zero, List.getElem?_cons_succ, storeL, spliceL, List.take_zero, List.take_succ_cons, List.drop_zero, List.drop_succ_cons, List.drop_nil, List.take_nil, Nat.le_refl, Nat.reduceMul, List.set_cons_zero, List.set_cons_succ, LV.scalar, List.all_cons, List.all_nil, Nat.lt_add_one, Nat.zero_lt_one, Nat.reduceLT, Nat.lt_irrefl, fillL, List.length_append, foldIntL, kind_beq, pures_int, solids_int, plains_int, unders_int, scalars_int]
theorem priced2_c (x y : Int) (m : LMem) : clF LP n_post_priced_2 [.int .i64 x, .int .i64 y] m = some (.P, .int .i64 (if y < x then y else x), m) := by
  refine call_P lp_post_priced_2 rfl rfl (m1 := []) ?_ rfl m
  simp only [post_priced_2, post_priced_2.B, beqT, beqF, exF_seq, exF_region, exF_block, exF_cond, exF_ret, exF_exit, exF_skip, runL, wantL, stepL, evL, LEnv.at, putL, loadFine, loadL, cellsAt, Trk.putNew, Trk.up, Trk.touch, Trk.gives, Trk.calm, Trk.hit, opdsOf, Trk.fresh, LEnv.keep, LEnv.ofFrom, List.map_cons, List.map_nil, nbeq, nble, nblt, ofAV, ofAVs, lenL, bin_add, bin_sub, bin_mul, bin_eql, bin_neq, bin_lss, bin_leq, bin_gtr, bin_geq, natL_nat, natL_zero, natL_one, natL_two, Nat.zero_mul, List.any_cons, List.any_nil, Bool.or_false, Bool.false_or, Bool.true_or, Bool.or_true, Bool.and_true, Bool.true_and, Bool.and_false, Bool.false_and, Bool.not_true, Bool.not_false, Nat.reduceBEq, Nat.reduceEqDiff, decide_true, decide_false, cond_true, cond_false, List.filter_nil, List.filter_cons, Nat.reduceAdd, Nat.reduceLeDiff, reduceCtorEq, List.length_nil, List.length_cons, Nat.mul_one, if_true, if_false, Bool.false_eq_true, eq_self, and_true, true_and, retL, resultsL, resAllL, resOfL, List.append_nil, List.nil_append, List.cons_append, true_or, or_true, false_or, or_false, false_and, and_false, not_true_eq_false, not_false_eq_true, ne_eq, unL, trim_nil, views_pures, LV.pures, LV.pure, freeze, Nat.reduceDiv, Int.reduceEq, Int.reduceLT, Int.reduceLE, Int.natCast_zero, LV.cells, allocL, List.getElem?_cons_zero, List.getElem?_cons_succ, storeL, spliceL, List.take_zero, List.take_succ_cons, List.drop_zero, List.drop_succ_cons, List.drop_nil, List.take_nil, Nat.le_refl, Nat.reduceMul, List.set_cons_zero, List.set_cons_succ, LV.scalar, List.all_cons, List.all_nil, Nat.lt_add_one, Nat.zero_lt_one, Nat.reduceLT, Nat.lt_irrefl, fillL, List.length_append, foldIntL, kind_beq, pures_int, solids_int, plains_int, unders_int, scalars_int]
theorem same_c (x : Int) (m : LMem) : clF LP n_post_same [.int .i64 x] m = some (.P, .int .i64 1, m) := by
  refine call_P lp_post_same rfl rfl (m1 := []) ?_ rfl m
  simp only [post_same, post_same.B, beqT, beqF, exF_seq, exF_region, exF_block, exF_cond, exF_ret, exF_exit, exF_skip, runL, wantL, stepL, evL, LEnv.at, putL, loadFine, loadL, cellsAt, Trk.putNew, Trk.up, Trk.touch, Trk.gives, Trk.calm, Trk.hit, opdsOf, Trk.fresh, LEnv.keep, LEnv.ofFrom, List.map_cons, List.map_nil, nbeq, nble, nblt, ofAV, ofAVs, lenL, bin_add, bin_sub, bin_mul, bin_eql, bin_neq, bin_lss, bin_leq, bin_gtr, bin_geq, natL_nat, natL_zero, natL_one, natL_two, Nat.zero_mul, List.any_cons, List.any_nil, Bool.or_false, Bool.false_or, Bool.true_or, Bool.or_true, Bool.and_true, Bool.true_and, Bool.and_false, Bool.false_and, Bool.not_true, Bool.not_false, Nat.reduceBEq, Nat.reduceEqDiff, decide_true, decide_false, cond_true, cond_false, List.filter_nil, List.filter_cons, Nat.reduceAdd, Nat.reduceLeDiff, reduceCtorEq, List.length_nil, List.length_cons, Nat.mul_one, if_true, if_false, Bool.false_eq_true, eq_self, and_true, true_and, retL, resultsL, resAllL, resOfL, List.append_nil, List.nil_append, List.cons_append, true_or, or_true, false_or, or_false, false_and, and_false, not_true_eq_false, not_false_eq_true, ne_eq, unL, trim_nil, views_pures, LV.pures, LV.pure, freeze, Nat.reduceDiv, Int.reduceEq, Int.reduceLT, Int.reduceLE, Int.natCast_zero, LV.cells, allocL, List.getElem?_cons_zero, List.getElem?_cons_succ, storeL, spliceL, List.take_zero, List.take_succ_cons, List.drop_zero, List.drop_succ_cons, List.drop_nil, List.take_nil, Nat.le_refl, Nat.reduceMul, List.set_cons_zero, List.set_cons_succ, LV.scalar, List.all_cons, List.all_nil, Nat.lt_add_one, Nat.zero_lt_one, Nat.reduceLT, Nat.lt_irrefl, fillL, List.length_append, foldIntL, kind_beq, pures_int, solids_int, plains_int, unders_int, scalars_int]
/-- What a price is. -/
structure PriceOk (g : Nat) (cap : List LV) (price : Nat → Nat) (n : Nat) : Prop where
  hc : LV.pures cap = true
  hp : ∀ i, i < n → ∀ m, clF LP g (.int .i64 (i : Int) :: cap) m = some (.P, .int .i64 (price i : Int), m)
  le : ∀ i, i < n → price i ≤ 20
theorem PriceOk.rat {g : Nat} {cap : List LV} {price : Nat → Nat} {n : Nat} (H : PriceOk g cap price n) : (minR g cap price).Ok n :=
  ⟨H.hc, H.hp, fun x y m => priced1_c x y m, fun x y m => priced2_c x y m⟩
theorem same_ok (n : Nat) : PriceOk n_post_same [] (fun _ => 1) n := ⟨rfl, fun i _ m => same_c _ m, fun _ _ => by omega⟩
mutual
theorem pure_shift (k : Nat) : ∀ v : LV, v.pure = true → v.shift k = v
  | .func f a b, h => by
    simp only [LV.pure, Bool.and_eq_true] at h
    simp only [LV.shift, pures_shift k a h.1, pures_shift k b h.2]
  | .agg cs, h => by simp only [LV.pure] at h; simp only [LV.shift, pures_shift k cs h]
  | .tup cs, h => by simp only [LV.pure] at h; simp only [LV.shift, pures_shift k cs h]
  | .ptr _ _ _, h | .sl _ _ _ _ _ _ _, h => by simp [LV.pure] at h
  | .undef, _ | .bool _, _ | .int _ _, _ | .nilptr, _ | .nilFunc, _ | .nilIface, _ | .elt _ _, _ | .lst _ _ _ _ _, _ => by simp only [LV.shift]
theorem pures_shift (k : Nat) : ∀ l : List LV, LV.pures l = true → LV.shifts k l = l
  | [], _ => by simp only [LV.shifts]
  | a :: r, h => by
    simp only [LV.pures, Bool.and_eq_true] at h
    simp only [LV.shifts, pure_shift k a h.1, pures_shift k r h.2]
end
mutual
theorem pure_under (k : Nat) : ∀ v : LV, v.pure = true → v.under k = true
  | .func f a b, h => by
    simp only [LV.pure, Bool.and_eq_true] at h
    simp only [LV.under, pures_under k a h.1, pures_under k b h.2, Bool.and_self]
  | .agg cs, h => by simp only [LV.pure] at h; simp only [LV.under, pures_under k cs h]
  | .tup cs, h => by simp only [LV.pure] at h; simp only [LV.under, pures_under k cs h]
  | .ptr _ _ _, h | .sl _ _ _ _ _ _ _, h => by simp [LV.pure] at h
  | .undef, _ | .bool _, _ | .int _ _, _ | .nilptr, _ | .nilFunc, _ | .nilIface, _ | .elt _ _, _ | .lst _ _ _ _ _, _ => by simp only [LV.under]
theorem pures_under (k : Nat) : ∀ l : List LV, LV.pures l = true → LV.unders k l = true
  | [], _ => by simp only [LV.unders]
  | a :: r, h => by
    simp only [LV.pures, Bool.and_eq_true] at h
    simp only [LV.unders, pure_under k a h.1, pures_under k r h.2, Bool.and_self]
end
theorem priced_c (g : Nat) (cap : List LV) (hc : LV.pures cap = true) (m : LMem) :
    clF LP n_post_priced [.func g [] cap] m = some (.O, .ptr m.length 0 7, m ++ [⟨(minR g cap (fun _ => 0)).cells 0 0, true⟩]) := by
  rw [call_O lp_post_priced rfl (by simp [LV.pures, LV.pure, hc]) (v := .ptr 0 0 7) (m1 := [⟨(minR g cap (fun _ => 0)).cells 0 0, true⟩]) ?_ m]
  · simp [LV.shift, LV.shifts]
    exact pures_shift _ cap hc
  · simp only [post_priced, post_priced.B, beqT, beqF, exF_seq, exF_region, exF_block, exF_cond, exF_ret, exF_exit, exF_skip, runL, wantL, stepL, evL, LEnv.at, putL, loadFine, loadL, cellsAt, Trk.putNew, Trk.up, Trk.touch, Trk.gives, Trk.calm, Trk.hit, opdsOf, Trk.fresh, LEnv.keep, LEnv.ofFrom, List.map_cons, List.map_nil, nbeq, nble, nblt, ofAV, ofAVs, lenL, bin_add, bin_sub, bin_mul, bin_eql, bin_neq, bin_lss, bin_leq, bin_gtr, bin_geq, natL_nat, natL_zero, natL_one, natL_two, Nat.zero_mul, List.any_cons, List.any_nil, Bool.or_false, Bool.false_or, Bool.true_or, Bool.or_true, Bool.and_true, Bool.true_and, Bool.and_false, Bool.false_and, Bool.not_true, Bool.not_false, Nat.reduceBEq, Nat.reduceEqDiff, decide_true, decide_false, cond_true, cond_false, List.filter_nil, List.filter_cons, Nat.reduceAdd, Nat.reduceLeDiff, reduceCtorEq, List.length_nil, List.length_cons, Nat.mul_one, if_true, if_false, Bool.false_eq_true, eq_self, and_true, true_and, retL, resultsL, resAllL, resOfL, List.append_nil, List.nil_append, List.cons_append, true_or, or_true, false_or, or_false, false_and, and_false, not_true_eq_false, not_false_eq_true, ne_eq, unL, trim_nil, views_pures, LV.pures, LV.pure, freeze, Nat.reduceDiv, Int.reduceEq, Int.reduceLT, Int.reduceLE, Int.natCast_zero, LV.cells, allocL, List.getElem?_cons_zero, List.getElem?_cons_succ, storeL, spliceL, List.take_zero, List.take_succ_cons, List.drop_zero, List.drop_succ_cons, List.drop_nil, List.take_nil, Nat.le_refl, Nat.reduceMul, List.set_cons_zero, List.set_cons_succ, LV.scalar, List.all_cons, List.all_nil, Nat.lt_add_one, Nat.zero_lt_one, Nat.reduceLT, Nat.lt_irrefl, fillL, List.length_append, foldIntL, kind_beq, pures_int, solids_int, plains_int, unders_int, scalars_int, minR]
    rfl
theorem whole_v (r : Rat) (must mustNot : Nat) (h1 : must < 1024) (h2 : mustNot < 1024) (nl ex : Bool) (sz : Nat) {s : List Int} (K : OkS s) (R : r.Ok s.length) (m : LMem) (i : Nat) (b : Bool) (hm : m[i]? = some ⟨r.cells must mustNot, b⟩) :
    clF LP n_post_rating_int_whole [.ptr i 0 7, IL nl ex sz s] m = some (.P, .int .i64 (wholeV r must mustNot s), m) := by
  have hpu : LV.pures (r.cells must mustNot) = true := by simp [LV.pures, LV.pure, R.hc]
  refine call_view lp_post_rating_int_whole rfl (vs := [.elt (r.cells must mustNot) 0, IL nl ex sz s]) (ids := [i]) ?_ (by simp [LV.pures, LV.pure]) (whole_c r must mustNot h1 h2 nl ex sz K R []) rfl
  refine views_two 32 m _ _ _ _ (fun k => ?_) rfl (by simp [LV.pures, LV.pure])
  simp only [view, hm, viewL_pures _ _ _ hpu]
  rfl

abbrev pc (g : Nat) (cap : List LV) (must mustNot : Nat) : List LV := [.func g [] cap, .int .i64 0, .func n_post_priced_1 [] [], .func n_post_priced_2 [] [], .int .i64 1048576, .int .u64 (must : Int), .int .u64 (mustNot : Int)]
theorem whole_p {g : Nat} {cap : List LV} {price : Nat → Nat} (must mustNot : Nat) (h1 : must < 1024) (h2 : mustNot < 1024) (nl ex : Bool) (sz : Nat) {s : List Int} (K : OkS s) (H : PriceOk g cap price s.length) (m : LMem) (i : Nat) (b : Bool) (hm : m[i]? = some ⟨pc g cap must mustNot, b⟩) :
    clF LP n_post_rating_int_whole [.ptr i 0 7, IL nl ex sz s] m = some (.P, .int .i64 (wholeV (minR g cap price) must mustNot s), m) :=
  whole_v (minR g cap price) must mustNot h1 h2 nl ex sz K H.rat m i b hm
end Go.Am.Post

