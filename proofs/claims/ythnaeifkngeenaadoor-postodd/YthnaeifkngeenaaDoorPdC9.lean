import Derived.Test.YthnaeifkngeenaaDoorPdC5
import Derived.Test.YthnaeifkngeenaaDoorPdC8
import Derived.Test.YthnaeifkngeenaaDoorLm13
import Derived.Test.YthnaeifkngeenaaDoorLm14
/-
  What functions of chapter 12 compute, 9: the first of the cheapest posts.
-/
set_option linter.unusedVariables false
set_option linter.unusedSimpArgs false
set_option maxRecDepth 10000
namespace Go.Am.Post
open Go.Am.G

theorem priced1_c (x y : Int) (m : LMem) : clF LP n_post_priced_1 [.int .i64 x, .int .i64 y] m = some (.P, .int .i64 (IntKind.i64.wrap (x + y)), m) := by
  refine call_P lp_post_priced_1 rfl rfl (m1 := []) ?_ rfl m
  simp only [post_priced_1, post_priced_1.B, beqT, beqF, exF_seq, exF_region, exF_block, exF_cond, exF_ret, exF_exit, exF_skip, runL, wantL, stepL, evL, evC, LEnv.at, putL, loadFine, loadL, cellsAt, Trk.putNew, Trk.up, Trk.touch, Trk.gives, Trk.calm, Trk.hit, opdsOf, Trk.fresh, LEnv.keep, LEnv.ofFrom, List.map_cons, List.map_nil, nbeq, nble, nblt, ofAV, ofAVs, lenL, bin_add, bin_sub, bin_mul, bin_eql, bin_neq, bin_lss, bin_leq, bin_gtr, bin_geq, natL_nat, natL_zero, natL_one, natL_two, Nat.zero_mul, List.any_cons, List.any_nil, Bool.or_false, Bool.false_or, Bool.true_or, Bool.or_true, Bool.and_true, Bool.true_and, Bool.and_false, Bool.false_and, Bool.not_true, Bool.not_false, Nat.reduceBEq, Nat.reduceEqDiff, decide_true, decide_false, cond_true, cond_false, List.filter_nil, List.filter_cons, Nat.reduceAdd, Nat.reduceLeDiff, reduceCtorEq, List.length_nil, List.length_cons, Nat.mul_one, if_true, if_false, Bool.false_eq_true, eq_self, and_true, true_and, retL, resultsL, resAllL, resOfL, List.append_nil, List.nil_append, List.cons_append, true_or, or_true, false_or, or_false, false_and, and_false, not_true_eq_false, not_false_eq_true, ne_eq, unL, trim_nil, views_pures, LV.pures, LV.pure, freeze, Nat.reduceDiv, Int.reduceEq, Int.reduceLT, Int.reduceLE, Int.natCast_zero, LV.cells, allocL, List.getElem?_cons_zero, List.getElem?_cons_succ, storeL, spliceL, List.take_zero, List.take_succ_cons, List.drop_zero, List.drop_succ_cons, List.drop_nil, List.take_nil, Nat.le_refl, Nat.reduceMul, List.set_cons_zero, List.set_cons_succ, LV.scalar, List.all_cons, List.all_nil, Nat.lt_add_one, Nat.zero_lt_one, Nat.reduceLT, Nat.lt_irrefl, fillL, List.length_append, foldIntL, kind_beq, pures_int, solids_int, plains_int, unders_int, scalars_int]
theorem priced2_c (x y : Int) (m : LMem) : clF LP n_post_priced_2 [.int .i64 x, .int .i64 y] m = some (.P, .int .i64 (if y < x then y else x), m) := by
  refine call_P lp_post_priced_2 rfl rfl (m1 := []) ?_ rfl m
  simp only [post_priced_2, post_priced_2.B, beqT, beqF, exF_seq, exF_region, exF_block, exF_cond, exF_ret, exF_exit, exF_skip, runL, wantL, stepL, evL, evC, LEnv.at, putL, loadFine, loadL, cellsAt, Trk.putNew, Trk.up, Trk.touch, Trk.gives, Trk.calm, Trk.hit, opdsOf, Trk.fresh, LEnv.keep, LEnv.ofFrom, List.map_cons, List.map_nil, nbeq, nble, nblt, ofAV, ofAVs, lenL, bin_add, bin_sub, bin_mul, bin_eql, bin_neq, bin_lss, bin_leq, bin_gtr, bin_geq, natL_nat, natL_zero, natL_one, natL_two, Nat.zero_mul, List.any_cons, List.any_nil, Bool.or_false, Bool.false_or, Bool.true_or, Bool.or_true, Bool.and_true, Bool.true_and, Bool.and_false, Bool.false_and, Bool.not_true, Bool.not_false, Nat.reduceBEq, Nat.reduceEqDiff, decide_true, decide_false, cond_true, cond_false, List.filter_nil, List.filter_cons, Nat.reduceAdd, Nat.reduceLeDiff, reduceCtorEq, List.length_nil, List.length_cons, Nat.mul_one, if_true, if_false, Bool.false_eq_true, eq_self, and_true, true_and, retL, resultsL, resAllL, resOfL, List.append_nil, List.nil_append, List.cons_append, true_or, or_true, false_or, or_false, false_and, and_false, not_true_eq_false, not_false_eq_true, ne_eq, unL, trim_nil, views_pures, LV.pures, LV.pure, freeze, Nat.reduceDiv, Int.reduceEq, Int.reduceLT, Int.reduceLE, Int.natCast_zero, LV.cells, allocL, List.getElem?_cons_zero, List.getElem?_cons_succ, storeL, spliceL, List.take_zero, List.take_succ_cons, List.drop_zero, List.drop_succ_cons, List.drop_nil, List.take_nil, Nat.le_refl, Nat.reduceMul, List.set_cons_zero, List.set_cons_succ, LV.scalar, List.all_cons, List.all_nil, Nat.lt_add_one, Nat.zero_lt_one, Nat.reduceLT, Nat.lt_irrefl, fillL, List.length_append, foldIntL, kind_beq, pures_int, solids_int, plains_int, unders_int, scalars_int]
theorem same_c (x : Int) (m : LMem) : clF LP n_post_same [.int .i64 x] m = some (.P, .int .i64 1, m) := by
  refine call_P lp_post_same rfl rfl (m1 := []) ?_ rfl m
  simp only [post_same, post_same.B, beqT, beqF, exF_seq, exF_region, exF_block, exF_cond, exF_ret, exF_exit, exF_skip, runL, wantL, stepL, evL, evC, LEnv.at, putL, loadFine, loadL, cellsAt, Trk.putNew, Trk.up, Trk.touch, Trk.gives, Trk.calm, Trk.hit, opdsOf, Trk.fresh, LEnv.keep, LEnv.ofFrom, List.map_cons, List.map_nil, nbeq, nble, nblt, ofAV, ofAVs, lenL, bin_add, bin_sub, bin_mul, bin_eql, bin_neq, bin_lss, bin_leq, bin_gtr, bin_geq, natL_nat, natL_zero, natL_one, natL_two, Nat.zero_mul, List.any_cons, List.any_nil, Bool.or_false, Bool.false_or, Bool.true_or, Bool.or_true, Bool.and_true, Bool.true_and, Bool.and_false, Bool.false_and, Bool.not_true, Bool.not_false, Nat.reduceBEq, Nat.reduceEqDiff, decide_true, decide_false, cond_true, cond_false, List.filter_nil, List.filter_cons, Nat.reduceAdd, Nat.reduceLeDiff, reduceCtorEq, List.length_nil, List.length_cons, Nat.mul_one, if_true, if_false, Bool.false_eq_true, eq_self, and_true, true_and, retL, resultsL, resAllL, resOfL, List.append_nil, List.nil_append, List.cons_append, true_or, or_true, false_or, or_false, false_and, and_false, not_true_eq_false, not_false_eq_true, ne_eq, unL, trim_nil, views_pures, LV.pures, LV.pure, freeze, Nat.reduceDiv, Int.reduceEq, Int.reduceLT, Int.reduceLE, Int.natCast_zero, LV.cells, allocL, List.getElem?_cons_zero, List.getElem?_cons_succ, storeL, spliceL, List.take_zero, List.take_succ_cons, List.drop_zero, List.drop_succ_cons, List.drop_nil, List.take_nil, Nat.le_refl, Nat.reduceMul, List.set_cons_zero, List.set_cons_succ, LV.scalar, List.all_cons, List.all_nil, Nat.lt_add_one, Nat.zero_lt_one, Nat.reduceLT, Nat.lt_irrefl, fillL, List.length_append, foldIntL, kind_beq, pures_int, solids_int, plains_int, unders_int, scalars_int]
/-- What a price is. -/
structure PriceOk (g : Nat) (cap : List LV) (price : Nat → Nat) (n : Nat) : Prop where
  hc : LV.pures cap = true
  hp : ∀ i, i < n → ∀ m, clF LP g (.int .i64 (i : Int) :: cap) m = some (.P, .int .i64 (price i : Int), m)
  le : ∀ i, i < n → price i ≤ 20
theorem PriceOk.rat {g : Nat} {cap : List LV} {price : Nat → Nat} {n : Nat} (H : PriceOk g cap price n) : (minR g cap price).Ok n :=
  ⟨H.hc, H.hp, fun x y m => priced1_c x y m, fun x y m => priced2_c x y m⟩
theorem same_ok (n : Nat) : PriceOk n_post_same [] (fun _ => 1) n := ⟨rfl, fun i _ m => same_c _ m, fun _ _ => by omega⟩
mutual
theorem pure_shift (k : Nat) : ∀ v : LV, v.pure = true → v.shift k = v
  | .func f a b, h => by
    simp only [LV.pure, Bool.and_eq_true] at h
    simp only [LV.shift, pures_shift k a h.1, pures_shift k b h.2]
  | .agg cs, h => by simp only [LV.pure] at h; simp only [LV.shift, pures_shift k cs h]
  | .tup cs, h => by simp only [LV.pure] at h; simp only [LV.shift, pures_shift k cs h]
  | .ptr _ _ _, h | .sl _ _ _ _ _ _ _, h => by simp [LV.pure] at h
  | .undef, _ | .bool _, _ | .int _ _, _ | .nilptr, _ | .nilFunc, _ | .nilIface, _ | .elt _ _, _ | .lst _ _ _ _ _, _ => by simp only [LV.shift]
theorem pures_shift (k : Nat) : ∀ l : List LV, LV.pures l = true → LV.shifts k l = l
  | [], _ => by simp only [LV.shifts]
  | a :: r, h => by
    simp only [LV.pures, Bool.and_eq_true] at h
    simp only [LV.shifts, pure_shift k a h.1, pures_shift k r h.2]
end
mutual
theorem pure_under (k : Nat) : ∀ v : LV, v.pure = true → v.under k = true
  | .func f a b, h => by
    simp only [LV.pure, Bool.and_eq_true] at h
    simp only [LV.under, pures_under k a h.1, pures_under k b h.2, Bool.and_self]
  | .agg cs, h => by simp only [LV.pure] at h; simp only [LV.under, pures_under k cs h]
  | .tup cs, h => by simp only [LV.pure] at h; simp only [LV.under, pures_under k cs h]
  | .ptr _ _ _, h | .sl _ _ _ _ _ _ _, h => by simp [LV.pure] at h
  | .undef, _ | .bool _, _ | .int _ _, _ | .nilptr, _ | .nilFunc, _ | .nilIface, _ | .elt _ _, _ | .lst _ _ _ _ _, _ => by simp only [LV.under]
theorem pures_under (k : Nat) : ∀ l : List LV, LV.pures l = true → LV.unders k l = true
  | [], _ => by simp only [LV.unders]
  | a :: r, h => by
    simp only [LV.pures, Bool.and_eq_true] at h
    simp only [LV.unders, pure_under k a h.1, pures_under k r h.2, Bool.and_self]
end
theorem priced_c (g : Nat) (cap : List LV) (hc : LV.pures cap = true) (m : LMem) :
    clF LP n_post_priced [.func g [] cap] m = some (.O, .ptr m.length 0 7, m ++ [⟨(minR g cap (fun _ => 0)).cells 0 0, true⟩]) := by
  rw [call_O lp_post_priced rfl (by simp [LV.pures, LV.pure, hc]) (v := .ptr 0 0 7) (m1 := [⟨(minR g cap (fun _ => 0)).cells 0 0, true⟩]) ?_ m]
  · simp [LV.shift, LV.shifts]
    exact pures_shift _ cap hc
  · simp only [post_priced, post_priced.B, beqT, beqF, exF_seq, exF_region, exF_block, exF_cond, exF_ret, exF_exit, exF_skip, runL, wantL, stepL, evL, evC, LEnv.at, putL, loadFine, loadL, cellsAt, Trk.putNew, Trk.up, Trk.touch, Trk.gives, Trk.calm, Trk.hit, opdsOf, Trk.fresh, LEnv.keep, LEnv.ofFrom, List.map_cons, List.map_nil, nbeq, nble, nblt, ofAV, ofAVs, lenL, bin_add, bin_sub, bin_mul, bin_eql, bin_neq, bin_lss, bin_leq, bin_gtr, bin_geq, natL_nat, natL_zero, natL_one, natL_two, Nat.zero_mul, List.any_cons, List.any_nil, Bool.or_false, Bool.false_or, Bool.true_or, Bool.or_true, Bool.and_true, Bool.true_and, Bool.and_false, Bool.false_and, Bool.not_true, Bool.not_false, Nat.reduceBEq, Nat.reduceEqDiff, decide_true, decide_false, cond_true, cond_false, List.filter_nil, List.filter_cons, Nat.reduceAdd, Nat.reduceLeDiff, reduceCtorEq, List.length_nil, List.length_cons, Nat.mul_one, if_true, if_false, Bool.false_eq_true, eq_self, and_true, true_and, retL, resultsL, resAllL, resOfL, List.append_nil, List.nil_append, List.cons_append, true_or, or_true, false_or, or_false, false_and, and_false, not_true_eq_false, not_false_eq_true, ne_eq, unL, trim_nil, views_pures, LV.pures, LV.pure, freeze, Nat.reduceDiv, Int.reduceEq, Int.reduceLT, Int.reduceLE, Int.natCast_zero, LV.cells, allocL, List.getElem?_cons_zero, List.getElem?_cons_succ, storeL, spliceL, List.take_zero, List.take_succ_cons, List.drop_zero, List.drop_succ_cons, List.drop_nil, List.take_nil, Nat.le_refl, Nat.reduceMul, List.set_cons_zero, List.set_cons_succ, LV.scalar, List.all_cons, List.all_nil, Nat.lt_add_one, Nat.zero_lt_one, Nat.reduceLT, Nat.lt_irrefl, fillL, List.length_append, foldIntL, kind_beq, pures_int, solids_int, plains_int, unders_int, scalars_int, minR]
    rfl
theorem whole_v (r : Rat) (must mustNot : Nat) (h1 : must < 1024) (h2 : mustNot < 1024) (nl ex : Bool) (sz : Nat) {s : List Int} (K : OkS s) (R : r.Ok s.length) (m : LMem) (i : Nat) (b : Bool) (hm : m[i]? = some ⟨r.cells must mustNot, b⟩) :
    clF LP n_post_rating_int_whole [.ptr i 0 7, IL nl ex sz s] m = some (.P, .int .i64 (wholeV r must mustNot s), m) := by
  have hpu : LV.pures (r.cells must mustNot) = true := by simp [LV.pures, LV.pure, R.hc]
  refine call_view lp_post_rating_int_whole rfl (vs := [.elt (r.cells must mustNot) 0, IL nl ex sz s]) (ids := [i]) ?_ (by simp [LV.pures, LV.pure]) (whole_c r must mustNot h1 h2 nl ex sz K R []) rfl
  refine views_two 32 m _ _ _ _ (fun k => ?_) rfl (by simp [LV.pures, LV.pure])
  simp only [view, hm, viewL_pures _ _ _ hpu]
  rfl

abbrev pc (g : Nat) (cap : List LV) (must mustNot : Nat) : List LV := [.func g [] cap, .int .i64 0, .func n_post_priced_1 [] [], .func n_post_priced_2 [] [], .int .i64 1048576, .int .u64 (must : Int), .int .u64 (mustNot : Int)]
theorem whole_p {g : Nat} {cap : List LV} {price : Nat → Nat} (must mustNot : Nat) (h1 : must < 1024) (h2 : mustNot < 1024) (nl ex : Bool) (sz : Nat) {s : List Int} (K : OkS s) (H : PriceOk g cap price s.length) (m : LMem) (i : Nat) (b : Bool) (hm : m[i]? = some ⟨pc g cap must mustNot, b⟩) :
    clF LP n_post_rating_int_whole [.ptr i 0 7, IL nl ex sz s] m = some (.P, .int .i64 (wholeV (minR g cap price) must mustNot s), m) :=
  whole_v (minR g cap price) must mustNot h1 h2 nl ex sz K H.rat m i b hm
end Go.Am.Post

/-
  Plain: what is found place by place is the first of the cheapest posts. No statement of the seat is proved here.
-/
set_option linter.unusedVariables false
set_option linter.unusedSimpArgs false
namespace Go.Am.Post
open SR Go.Am.G

theorem wh_congr (par : Nat → Nat) (n : Nat) (price : Nat → Nat) {a a' c c' : Nat → Bool} (ha : ∀ v, v < n → a v = a' v) (hc : ∀ v, v < n → c v = c' v) : wh par n price a c = wh par n price a' c' := by
  unfold wh
  refine sumL_congr _ _ _ fun S _ => ?_
  have : allN (okS par a c S) n = allN (okS par a' c' S) n := by
    rw [Bool.eq_iff_iff, okS_iff, okS_iff]
    constructor
    · rintro ⟨h1, h2, h3⟩
      exact ⟨h1, fun v hv h => h2 v hv (by rw [ha v hv]; exact h), fun v hv h => by rw [← hc v hv]; exact h3 v hv h⟩
    · rintro ⟨h1, h2, h3⟩
      exact ⟨h1, fun v hv h => h2 v hv (by rw [← ha v hv]; exact h), fun v hv h => by rw [hc v hv]; exact h3 v hv h⟩
  rw [this]
theorem memL_mask {n : Nat} (hn : n ≤ 10) {M : List Nat} (hM : M ∈ asc 0 n) : memL (maskN M 0) = M := by
  have hm := (mem_asc _ _ _).1 hM
  refine up_ext (i := 0) (up_filter _ (up_range' 10 0)) hm.1 fun x => ?_
  show x ∈ (List.range' 0 10).filter _ ↔ _
  rw [List.mem_filter, maskN_bit, Nat.zero_testBit, Bool.false_or, decide_eq_true_eq, List.mem_range']
  constructor
  · rintro ⟨_, h⟩; exact h
  · intro h; have := hm.2 x h; exact ⟨⟨x, by omega, by omega⟩, h⟩
/-- A cost that is at most a number is told by the program's rating. -/
theorem whole_iff {s : List Int} (K : OkS s) (g : Nat) (cap : List LV) (price : Nat → Nat) (hp : ∀ i, i < s.length → price i ≤ 20) (must mustNot b : Nat) (hb : b ≤ 1000) :
    wholeV (minR g cap price) must mustNot s = (b : Int) ↔ wh (par s) s.length price (fun v => must.testBit v) (fun v => mustNot.testBit v) = some b := by
  have h := wh_eq K g cap price hp must mustNot
  generalize wholeV (minR g cap price) must mustNot s = x at *
  generalize wh (par s) s.length price (fun v => must.testBit v) (fun v => mustNot.testBit v) = y at *
  cases y with
  | none => simp only [RMin] at h; simp; omega
  | some c => simp only [RMin] at h; rw [Option.some.injEq, h.1]; omega
theorem cost_le (price : Nat → Nat) (n : Nat) (hp : ∀ i, i < n → price i ≤ 20) : ∀ S : List Nat, (∀ x ∈ S, x < n) → cost price S ≤ 20 * S.length
  | [], _ => by simp [cost]
  | x :: r, h => by
    have := cost_le price n hp r fun y hy => h y (by simp [hy])
    have := hp x (h x (by simp))
    simp only [cost, List.map_cons, List.sum_cons, List.length_cons] at *
    omega
/-- The least cost, and the first posts that have it. -/
def bestC (s : List Int) (price : Nat → Nat) : Nat := (wh (par s) s.length price (fun _ => false) (fun _ => false)).getD 0
theorem best_ok (s : List Int) (price : Nat → Nat) : wh (par s) s.length price (fun _ => false) (fun _ => false) = some (bestC s price) := by
  obtain ⟨b, hb, _⟩ := wh_best (par s) s.length price
  rw [bestC, hb]; rfl
theorem best_le {s : List Int} (K : OkS s) (price : Nat → Nat) (hp : ∀ i, i < s.length → price i ≤ 20) : bestC s price ≤ 200 := by
  obtain ⟨b, hb, h⟩ := wh_best (par s) s.length price
  have e := best_ok s price
  rw [hb] at e
  have e := Option.some.inj e
  have := cost_le price s.length hp (List.range s.length) fun x hx => by simpa using hx
  have := K.le
  simp only [List.length_range] at *
  omega
end Go.Am.Post

/-
  What functions of chapter 12 compute, 10: the reference's lists of places.
-/
set_option linter.unusedVariables false
set_option linter.unusedSimpArgs false
set_option maxRecDepth 10000
namespace Go.Am.Post
open Go.Am.G

abbrev RLn (l : List Nat) : LV := RL (ci l)
end Go.Am.Post

/-
  What functions of chapter 12 compute, 11: the reference's lists that guard, and the smallest ones.
-/
set_option linter.unusedVariables false
set_option linter.unusedSimpArgs false
set_option maxRecDepth 10000
namespace Go.Am.Post
open Go.Am.G

/-- All posts that guard, in ascending order. -/
def gs (s : List Int) : List (List Nat) := (asc 0 s.length).filter (grdB s)
theorem nb_adj {s : List Int} (K : OkS s) {v u : Nat} (hv : v < s.length) (hu : u < s.length) : nb s v u = true ↔ u = v ∨ adj (par s) v u = true := by
  unfold nb adj par
  rw [if_pos hv, if_pos hu]
  simp only [Bool.or_eq_true, decide_eq_true_eq, Bool.and_eq_true]
  have f1 : v ≠ 0 → 0 ≤ s.getD v 0 := fun h => (K.hi v (by omega) hv).1
  have f2 : u ≠ 0 → 0 ≤ s.getD u 0 := fun h => (K.hi u (by omega) hu).1
  have h0 := K.h0
  constructor
  · rintro (h | h | h)
    · exact .inl h
    · right; right
      have : u ≠ 0 := by intro c; subst c; omega
      exact ⟨this, by omega⟩
    · right; left
      have : v ≠ 0 := by intro c; subst c; omega
      exact ⟨this, by omega⟩
  · rintro (h | ⟨h1, h2⟩ | ⟨h1, h2⟩)
    · exact .inl h
    · have := f1 h1; right; right; omega
    · have := f2 h1; right; left; omega
theorem grd_dom {s : List Int} (K : OkS s) {S : List Nat} (hS : S ∈ asc 0 s.length) : grdB s S = dom (par s) s.length S := by
  rw [Bool.eq_iff_iff, dom, allN_iff, grdB, List.all_eq_true]
  simp only [List.mem_range, okS]
  have hlt := asc_lt hS
  constructor
  · intro h v hv
    have := h v hv
    by_cases c : v ∈ S
    · simp [c]
    · simp only [c, if_false, Bool.not_false, Bool.and_true]
      rw [List.any_eq_true] at this ⊢
      obtain ⟨u, hu, h3⟩ := this
      rcases (nb_adj K hv (hlt u hu)).1 h3 with rfl | h4
      · exact absurd hu c
      · exact ⟨u, hu, h4⟩
  · intro h v hv
    have := h v hv
    by_cases c : v ∈ S
    · rw [List.any_eq_true]
      exact ⟨v, c, by simp [nb]⟩
    · simp only [c, if_false, Bool.not_false, Bool.and_true] at this
      rw [List.any_eq_true] at this ⊢
      obtain ⟨u, hu, h3⟩ := this
      exact ⟨u, hu, (nb_adj K hv (hlt u hu)).2 (.inr h3)⟩
theorem gs_dom {s : List Int} (K : OkS s) : gs s = (asc 0 s.length).filter (dom (par s) s.length) := by
  unfold gs
  exact List.filter_congr fun S hS => grd_dom K hS
end Go.Am.Post


