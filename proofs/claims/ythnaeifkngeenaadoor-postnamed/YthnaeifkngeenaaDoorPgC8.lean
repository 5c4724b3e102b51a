import Derived.Test.YthnaeifkngeenaaDoorPgC3
import Derived.Test.YthnaeifkngeenaaDoorLm12
/-
  What functions of chapter 12 compute, 8: a shore is rated by numbers.
-/
set_option linter.unusedVariables false
set_option linter.unusedSimpArgs false
set_option maxRecDepth 10000
namespace Go.Am.Post
open Go.Am.G

/-- Three numbers that lie one after the other. -/
abbrev T3 := Int × Int × Int
def t3 (x : T3) : List LV := [.int .i64 x.1, .int .i64 x.2.1, .int .i64 x.2.2]
theorem t3_len (x : T3) : (t3 x).length = 3 := rfl
def fl (T : List T3) : List LV := T.flatMap t3
theorem fl_len (T : List T3) : (fl T).length = T.length * 3 := flat_length t3 3 t3_len T
theorem fl_under (k : Nat) (T : List T3) : LV.unders k (fl T) = true := flat_unders t3 k (fun _ => rfl) T
theorem fl_seg (T : List T3) (i : Nat) (h : i < T.length) : ((fl T).drop (i * 3)).take 3 = [.int .i64 T[i].1, .int .i64 T[i].2.1, .int .i64 T[i].2.2] := flat_seg t3 3 t3_len T i h
theorem fl_at0 (T : List T3) (i : Nat) (h : i < T.length) : (fl T)[i * 3]? = some (.int .i64 T[i].1) := flat_at t3 3 t3_len T i h 0 (by omega)
theorem fl_at1 (T : List T3) (i : Nat) (h : i < T.length) : (fl T)[i * 3 + 1]? = some (.int .i64 T[i].2.1) := flat_at t3 3 t3_len T i h 1 (by omega)
theorem fl_at2 (T : List T3) (i : Nat) (h : i < T.length) : (fl T)[i * 3 + 2]? = some (.int .i64 T[i].2.2) := flat_at t3 3 t3_len T i h 2 (by omega)
theorem fl_set (T : List T3) (i : Nat) (h : i < T.length) (a b c : Int) : (fl T).take (i * 3) ++ [.int .i64 a, .int .i64 b, .int .i64 c] ++ (fl T).drop (i * 3 + 3) = fl (T.set i (a, b, c)) := flat_set t3 3 t3_len T i h (a, b, c)
theorem fl_set0 (T : List T3) (i : Nat) (h : i < T.length) (a : Int) : (fl T).take (i * 3) ++ [.int .i64 a] ++ (fl T).drop (i * 3 + 1) = fl (T.set i (a, T[i].2)) := flat_set1 t3 3 t3_len T i h 0 (by omega) _ _ rfl
theorem fl_set1 (T : List T3) (i : Nat) (h : i < T.length) (a : Int) : (fl T).take (i * 3 + 1) ++ [.int .i64 a] ++ (fl T).drop (i * 3 + 1 + 1) = fl (T.set i (T[i].1, a, T[i].2.2)) := flat_set1 t3 3 t3_len T i h 1 (by omega) _ _ rfl
theorem fl_set2 (T : List T3) (i : Nat) (h : i < T.length) (a : Int) : (fl T).take (i * 3 + 2) ++ [.int .i64 a] ++ (fl T).drop (i * 3 + 2 + 1) = fl (T.set i (T[i].1, T[i].2.1, a)) := flat_set1 t3 3 t3_len T i h 2 (by omega) _ _ rfl

/-- A way of rating: what a post, nothing and what cannot be are rated; how parts are put together, and which one is taken. -/
structure Rat where
  gp : Nat
  cap : List LV
  post : Nat → Int
  empty : Int
  gj : Nat
  J : Int → Int → Int
  go : Nat
  O : Int → Int → Int
  none : Int
abbrev Rat.cells (r : Rat) (must mustNot : Nat) : List LV := [.func r.gp [] r.cap, .int .i64 r.empty, .func r.gj [] [], .func r.go [] [], .int .i64 r.none, .int .u64 (must : Int), .int .u64 (mustNot : Int)]
/-- What its functions compute. -/
structure Rat.Ok (r : Rat) (n : Nat) : Prop where
  hc : LV.pures r.cap = true
  hp : ∀ i, i < n → ∀ m, clF LP r.gp (.int .i64 (i : Int) :: r.cap) m = some (.P, .int .i64 (r.post i), m)
  hj : ∀ x y m, clF LP r.gj [.int .i64 x, .int .i64 y] m = some (.P, .int .i64 (r.J x y), m)
  ho : ∀ x y m, clF LP r.go [.int .i64 x, .int .i64 y] m = some (.P, .int .i64 (r.O x y), m)

def rowT (r : Rat) (must mustNot i : Nat) : T3 :=
  (if mustNot / 2 ^ i % 2 = 1 then r.none else r.post i, r.none, if must / 2 ^ i % 2 = 1 then r.none else r.empty)
def fillT (r : Rat) (must mustNot : Nat) : Nat → Nat → List T3 → List T3
  | 0, _, T => T
  | n + 1, k, T => fillT r must mustNot n (k + 1) (T.set k (rowT r must mustNot k))
theorem rate_fill (r : Rat) (must mustNot : Nat) (h1 : must < 1024) (h2 : mustNot < 1024) (nl ex : Bool) (sz : Nat) (s : List Int) (L : Nat) (h10 : L ≤ 10) (R : r.Ok L) (n : Nat) : ∀ (k : Nat) (T : List T3), k + n = L → T.length = L →
    exF LP post_rating_int_rate.L0 [(0, .elt (r.cells must mustNot) 0), (1, IL nl ex sz s), (4, .ptr 0 0 3), (5, .sl 1 0 L L 0 3 (L * 3)), (16, .int .i64 (L : Int)), (17, .int .i64 (k : Int))] [⟨[.int .i64 0, .int .i64 0, .int .i64 0], true⟩, ⟨fl T, true⟩] =
      some (.exit 0, [(0, .elt (r.cells must mustNot) 0), (1, IL nl ex sz s), (4, .ptr 0 0 3), (5, .sl 1 0 L L 0 3 (L * 3))], [⟨[.int .i64 0, .int .i64 0, .int .i64 0], true⟩, ⟨fl (fillT r must mustNot n k T), true⟩]) := by
  induction n with
  | zero =>
    intro k T hk hl
    rw [post_rating_int_rate.L0_eq]
    simp only [post_rating_int_rate.B0, beqT, beqF, exF_seq, exF_region, exF_block, exF_cond, exF_ret, exF_exit, exF_skip, runL, wantL, stepL, evL, evC, LEnv.at, putL, loadFine, loadL, cellsAt, Trk.putNew, Trk.up, Trk.touch, Trk.gives, Trk.calm, Trk.hit, opdsOf, Trk.fresh, LEnv.keep, LEnv.ofFrom, List.map_cons, List.map_nil, nbeq, nble, nblt, ofAV, ofAVs, lenL, bin_add, bin_sub, bin_mul, bin_eql, bin_neq, bin_lss, bin_leq, bin_gtr, bin_geq, natL_nat, natL_zero, natL_one, natL_two, Nat.zero_mul, List.any_cons, List.any_nil, Bool.or_false, Bool.false_or, Bool.true_or, Bool.or_true, Bool.and_true, Bool.true_and, Bool.and_false, Bool.false_and, Bool.not_true, Bool.not_false, Nat.reduceBEq, Nat.reduceEqDiff, decide_true, decide_false, cond_true, cond_false, List.filter_nil, List.filter_cons, Nat.reduceAdd, Nat.reduceLeDiff, reduceCtorEq, List.length_nil, List.length_cons, Nat.mul_one, if_true, if_false, Bool.false_eq_true, eq_self, and_true, true_and, retL, resultsL, resAllL, resOfL, List.append_nil, List.nil_append, List.cons_append, true_or, or_true, false_or, or_false, false_and, and_false, not_true_eq_false, not_false_eq_true, ne_eq, unL, trim_nil, views_pures, LV.pures, LV.pure, freeze, Nat.reduceDiv, Int.reduceEq, Int.reduceLT, Int.reduceLE, Int.natCast_zero, LV.cells, allocL, List.getElem?_cons_zero, List.getElem?_cons_succ, storeL, spliceL, List.take_zero, List.take_succ_cons, List.drop_zero, List.drop_succ_cons, List.drop_nil, List.take_nil, Nat.le_refl, Nat.reduceMul, List.set_cons_zero, List.set_cons_succ, LV.scalar, List.all_cons, List.all_nil, Nat.lt_add_one, Nat.zero_lt_one, Nat.reduceLT, Nat.lt_irrefl, fillL, List.length_append, foldIntL, kind_beq, pures_int, solids_int, plains_int, unders_int, scalars_int, show ¬ ((k : Int) < (L : Int)) by omega, fillT]
  | succ n ih =>
    intro k T hk hl
    have hkL : k < L := by omega
    have hkT : k < T.length := by omega
    have ih := ih (k + 1) (T.set k (rowT r must mustNot k)) (by omega) (by simpa using hl)
    have hd1 : must / 2 ^ k < 18446744073709551616 := Nat.lt_of_le_of_lt (Nat.div_le_self _ _) (by omega)
    have hd2 : mustNot / 2 ^ k < 18446744073709551616 := Nat.lt_of_le_of_lt (Nat.div_le_self _ _) (by omega)
    have b1 := bits_shr (a := must) (show k < 64 by omega)
    have b2 := bits_shr (a := mustNot) (show k < 64 by omega)
    have hp := R.hp k hkL
    have hfl : ∀ T : List T3, T.length = L → (fl T).length = L * 3 := fun T h => by rw [fl_len, h]
    have l1 := hfl T hl
    have l2 := hfl (T.set k (r.post k, r.none, r.empty)) (by simpa using hl)
    have q1 : k < (T.set k (r.post k, r.none, r.empty)).length := by simpa using hkT
    have g1 : (T.set k (r.post k, r.none, r.empty))[k] = (r.post k, r.none, r.empty) := by simp
    have q2 : k < (T.set k (r.none, r.none, r.empty)).length := by simpa using hkT
    have g2 : (T.set k (r.none, r.none, r.empty))[k] = (r.none, r.none, r.empty) := by simp
    have l3 := hfl (T.set k (r.none, r.none, r.empty)) (by simpa using hl)
    have hb : k * 3 + 3 ≤ L * 3 := by omega
    have hb0 : k * 3 + 1 ≤ L * 3 := by omega
    have hb1 : k * 3 + 1 + 1 ≤ L * 3 := by omega
    have hb2 : k * 3 + 2 + 1 ≤ L * 3 := by omega
    have s0 := fl_set T k hkT (r.post k) r.none r.empty
    have s1 := fl_set0 _ k q1 r.none
    have s2 := fl_set1 _ k q1 r.none
    have s3 := fl_set1 _ k q2 r.none
    have s4 := fl_set2 _ k q1 r.none
    have s5 := fl_set2 _ k q2 r.none
    simp only [g1, g2, List.set_set] at s1 s2 s3 s4 s5
    rw [post_rating_int_rate.L0_eq, fillT]
    unfold rowT at ih ⊢
    by_cases c2 : mustNot / 2 ^ k % 2 = 1
    · have c2' : ((mustNot / 2 ^ k % 2 : Nat) : Int) = 1 := by omega
      by_cases c1 : must / 2 ^ k % 2 = 1
      · have c1' : ((must / 2 ^ k % 2 : Nat) : Int) = 1 := by omega
        rw [if_pos c1, if_pos c2] at ih ⊢
        simp only [post_rating_int_rate.B0, beqT, beqF, exF_seq, exF_region, exF_block, exF_cond, exF_ret, exF_exit, exF_skip, runL, wantL, stepL, evL, evC, LEnv.at, putL, loadFine, loadL, cellsAt, Trk.putNew, Trk.up, Trk.touch, Trk.gives, Trk.calm, Trk.hit, opdsOf, Trk.fresh, LEnv.keep, LEnv.ofFrom, List.map_cons, List.map_nil, nbeq, nble, nblt, ofAV, ofAVs, lenL, bin_add, bin_sub, bin_mul, bin_eql, bin_neq, bin_lss, bin_leq, bin_gtr, bin_geq, natL_nat, natL_zero, natL_one, natL_two, Nat.zero_mul, List.any_cons, List.any_nil, Bool.or_false, Bool.false_or, Bool.true_or, Bool.or_true, Bool.and_true, Bool.true_and, Bool.and_false, Bool.false_and, Bool.not_true, Bool.not_false, Nat.reduceBEq, Nat.reduceEqDiff, decide_true, decide_false, cond_true, cond_false, List.filter_nil, List.filter_cons, Nat.reduceAdd, Nat.reduceLeDiff, reduceCtorEq, List.length_nil, List.length_cons, Nat.mul_one, if_true, if_false, Bool.false_eq_true, eq_self, and_true, true_and, retL, resultsL, resAllL, resOfL, List.append_nil, List.nil_append, List.cons_append, true_or, or_true, false_or, or_false, false_and, and_false, not_true_eq_false, not_false_eq_true, ne_eq, unL, trim_nil, views_pures, LV.pures, LV.pure, freeze, Nat.reduceDiv, Int.reduceEq, Int.reduceLT, Int.reduceLE, Int.natCast_zero, LV.cells, allocL, List.getElem?_cons_zero, List.getElem?_cons_succ, storeL, spliceL, List.take_zero, List.take_succ_cons, List.drop_zero, List.drop_succ_cons, List.drop_nil, List.take_nil, Nat.le_refl, Nat.reduceMul, List.set_cons_zero, List.set_cons_succ, LV.scalar, List.all_cons, List.all_nil, Nat.lt_add_one, Nat.zero_lt_one, Nat.reduceLT, Nat.lt_irrefl, fillL, List.length_append, foldIntL, kind_beq, pures_int, solids_int, plains_int, unders_int, scalars_int, show ((k : Int) < (L : Int)) by omega, hkL, hp, Nat.zero_add, Nat.add_zero, l1, hb, s0, b1, b2, bits_and1 hd1, bits_and1 hd2, c1', c2', l2, hb0, s1, l3, hb1, s3, hb2, s5, fl_under, trim_le, Nat.reduceLeDiff, wrap_succ (show k + 1 < 9223372036854775808 by omega), ih]
      · have c1' : ¬ ((must / 2 ^ k % 2 : Nat) : Int) = 1 := by omega
        rw [if_neg c1, if_pos c2] at ih ⊢
        simp only [post_rating_int_rate.B0, beqT, beqF, exF_seq, exF_region, exF_block, exF_cond, exF_ret, exF_exit, exF_skip, runL, wantL, stepL, evL, evC, LEnv.at, putL, loadFine, loadL, cellsAt, Trk.putNew, Trk.up, Trk.touch, Trk.gives, Trk.calm, Trk.hit, opdsOf, Trk.fresh, LEnv.keep, LEnv.ofFrom, List.map_cons, List.map_nil, nbeq, nble, nblt, ofAV, ofAVs, lenL, bin_add, bin_sub, bin_mul, bin_eql, bin_neq, bin_lss, bin_leq, bin_gtr, bin_geq, natL_nat, natL_zero, natL_one, natL_two, Nat.zero_mul, List.any_cons, List.any_nil, Bool.or_false, Bool.false_or, Bool.true_or, Bool.or_true, Bool.and_true, Bool.true_and, Bool.and_false, Bool.false_and, Bool.not_true, Bool.not_false, Nat.reduceBEq, Nat.reduceEqDiff, decide_true, decide_false, cond_true, cond_false, List.filter_nil, List.filter_cons, Nat.reduceAdd, Nat.reduceLeDiff, reduceCtorEq, List.length_nil, List.length_cons, Nat.mul_one, if_true, if_false, Bool.false_eq_true, eq_self, and_true, true_and, retL, resultsL, resAllL, resOfL, List.append_nil, List.nil_append, List.cons_append, true_or, or_true, false_or, or_false, false_and, and_false, not_true_eq_false, not_false_eq_true, ne_eq, unL, trim_nil, views_pures, LV.pures, LV.pure, freeze, Nat.reduceDiv, Int.reduceEq, Int.reduceLT, Int.reduceLE, Int.natCast_zero, LV.cells, allocL, List.getElem?_cons_zero, List.getElem?_cons_succ, storeL, spliceL, List.take_zero, List.take_succ_cons, List.drop_zero, List.drop_succ_cons, List.drop_nil, List.take_nil, Nat.le_refl, Nat.reduceMul, List.set_cons_zero, List.set_cons_succ, LV.scalar, List.all_cons, List.all_nil, Nat.lt_add_one, Nat.zero_lt_one, Nat.reduceLT, Nat.lt_irrefl, fillL, List.length_append, foldIntL, kind_beq, pures_int, solids_int, plains_int, unders_int, scalars_int, show ((k : Int) < (L : Int)) by omega, hkL, hp, Nat.zero_add, Nat.add_zero, l1, hb, s0, b1, b2, bits_and1 hd1, bits_and1 hd2, c1', c2', l2, hb0, s1, fl_under, trim_le, Nat.reduceLeDiff, wrap_succ (show k + 1 < 9223372036854775808 by omega), ih]
    · have c2' : ¬ ((mustNot / 2 ^ k % 2 : Nat) : Int) = 1 := by omega
      by_cases c1 : must / 2 ^ k % 2 = 1
      · have c1' : ((must / 2 ^ k % 2 : Nat) : Int) = 1 := by omega
        rw [if_pos c1, if_neg c2] at ih ⊢
        simp only [post_rating_int_rate.B0, beqT, beqF, exF_seq, exF_region, exF_block, exF_cond, exF_ret, exF_exit, exF_skip, runL, wantL, stepL, evL, evC, LEnv.at, putL, loadFine, loadL, cellsAt, Trk.putNew, Trk.up, Trk.touch, Trk.gives, Trk.calm, Trk.hit, opdsOf, Trk.fresh, LEnv.keep, LEnv.ofFrom, List.map_cons, List.map_nil, nbeq, nble, nblt, ofAV, ofAVs, lenL, bin_add, bin_sub, bin_mul, bin_eql, bin_neq, bin_lss, bin_leq, bin_gtr, bin_geq, natL_nat, natL_zero, natL_one, natL_two, Nat.zero_mul, List.any_cons, List.any_nil, Bool.or_false, Bool.false_or, Bool.true_or, Bool.or_true, Bool.and_true, Bool.true_and, Bool.and_false, Bool.false_and, Bool.not_true, Bool.not_false, Nat.reduceBEq, Nat.reduceEqDiff, decide_true, decide_false, cond_true, cond_false, List.filter_nil, List.filter_cons, Nat.reduceAdd, Nat.reduceLeDiff, reduceCtorEq, List.length_nil, List.length_cons, Nat.mul_one, if_true, if_false, Bool.false_eq_true, eq_self, and_true, true_and, retL, resultsL, resAllL, resOfL, List.append_nil, List.nil_append, List.cons_append, true_or, or_true, false_or, or_false, false_and, and_false, not_true_eq_false, not_false_eq_true, ne_eq, unL, trim_nil, views_pures, LV.pures, LV.pure, freeze, Nat.reduceDiv, Int.reduceEq, Int.reduceLT, Int.reduceLE, Int.natCast_zero, LV.cells, allocL, List.getElem?_cons_zero, List.getElem?_cons_succ, storeL, spliceL, List.take_zero, List.take_succ_cons, List.drop_zero, List.drop_succ_cons, List.drop_nil, List.take_nil, Nat.le_refl, Nat.reduceMul, List.set_cons_zero, List.set_cons_succ, LV.scalar, List.all_cons, List.all_nil, Nat.lt_add_one, Nat.zero_lt_one, Nat.reduceLT, Nat.lt_irrefl, fillL, List.length_append, foldIntL, kind_beq, pures_int, solids_int, plains_int, unders_int, scalars_int, show ((k : Int) < (L : Int)) by omega, hkL, hp, Nat.zero_add, Nat.add_zero, l1, hb, s0, b1, b2, bits_and1 hd1, bits_and1 hd2, c1', c2', l2, hb1, s2, hb2, s4, fl_under, trim_le, Nat.reduceLeDiff, wrap_succ (show k + 1 < 9223372036854775808 by omega), ih]
      · have c1' : ¬ ((must / 2 ^ k % 2 : Nat) : Int) = 1 := by omega
        rw [if_neg c1, if_neg c2] at ih ⊢
        simp only [post_rating_int_rate.B0, beqT, beqF, exF_seq, exF_region, exF_block, exF_cond, exF_ret, exF_exit, exF_skip, runL, wantL, stepL, evL, evC, LEnv.at, putL, loadFine, loadL, cellsAt, Trk.putNew, Trk.up, Trk.touch, Trk.gives, Trk.calm, Trk.hit, opdsOf, Trk.fresh, LEnv.keep, LEnv.ofFrom, List.map_cons, List.map_nil, nbeq, nble, nblt, ofAV, ofAVs, lenL, bin_add, bin_sub, bin_mul, bin_eql, bin_neq, bin_lss, bin_leq, bin_gtr, bin_geq, natL_nat, natL_zero, natL_one, natL_two, Nat.zero_mul, List.any_cons, List.any_nil, Bool.or_false, Bool.false_or, Bool.true_or, Bool.or_true, Bool.and_true, Bool.true_and, Bool.and_false, Bool.false_and, Bool.not_true, Bool.not_false, Nat.reduceBEq, Nat.reduceEqDiff, decide_true, decide_false, cond_true, cond_false, List.filter_nil, List.filter_cons, Nat.reduceAdd, Nat.reduceLeDiff, reduceCtorEq, List.length_nil, List.length_cons, Nat.mul_one, if_true, if_false, Bool.false_eq_true, eq_self, and_true, true_and, retL, resultsL, resAllL, resOfL, List.append_nil, List.nil_append, List.cons_append, true_or, or_true, false_or, or_false, false_and, and_false, not_true_eq_false, not_false_eq_true, ne_eq, unL, trim_nil, views_pures, LV.pures, LV.pure, freeze, Nat.reduceDiv, Int.reduceEq, Int.reduceLT, Int.reduceLE, Int.natCast_zero, LV.cells, allocL, List.getElem?_cons_zero, List.getElem?_cons_succ, storeL, spliceL, List.take_zero, List.take_succ_cons, List.drop_zero, List.drop_succ_cons, List.drop_nil, List.take_nil, Nat.le_refl, Nat.reduceMul, List.set_cons_zero, List.set_cons_succ, LV.scalar, List.all_cons, List.all_nil, Nat.lt_add_one, Nat.zero_lt_one, Nat.reduceLT, Nat.lt_irrefl, fillL, List.length_append, foldIntL, kind_beq, pures_int, solids_int, plains_int, unders_int, scalars_int, show ((k : Int) < (L : Int)) by omega, hkL, hp, Nat.zero_add, Nat.add_zero, l1, hb, s0, b1, b2, bits_and1 hd1, bits_and1 hd2, c1', c2', trim_le, Nat.reduceLeDiff, wrap_succ (show k + 1 < 9223372036854775808 by omega), ih]

/-! ### From the last place on -/
def mergeP (r : Rat) (b own : T3) : T3 :=
  (r.J b.1 (r.O (r.O own.1 own.2.1) own.2.2), r.O (r.J b.2.1 (r.O own.1 own.2.1)) (r.J b.2.2 own.1), r.J b.2.2 own.2.1)
def foldP (r : Rat) (s : List Int) : Nat → List T3 → List T3
  | 0, T => T
  | j + 1, T => foldP r s j (T.set (s.getD (j + 1) 0).toNat (mergeP r (T.getD (s.getD (j + 1) 0).toNat (0, 0, 0)) (T.getD (j + 1) (0, 0, 0))))
theorem rate_fold (r : Rat) (must mustNot : Nat) (nl ex : Bool) (sz : Nat) {s : List Int} (K : OkS s) (L : Nat) (hL : s.length = L) (R : r.Ok L) (n : Nat) : ∀ (k : Nat) (T : List T3), k + n + 1 = L → T.length = L →
    exF LP post_rating_int_rate.L1 [(0, .elt (r.cells must mustNot) 0), (1, IL nl ex sz s), (4, .ptr 0 0 3), (5, .sl 1 0 L L 0 3 (L * 3)), (81, .int .i64 ((L : Int) - 1)), (82, .int .i64 (k : Int))] [⟨[.int .i64 0, .int .i64 0, .int .i64 0], true⟩, ⟨fl T, true⟩] =
      some (.exit 2, [(4, .ptr 0 0 3), (5, .sl 1 0 L L 0 3 (L * 3))], [⟨[.int .i64 0, .int .i64 0, .int .i64 0], true⟩, ⟨fl (foldP r s n T), true⟩]) := by
  have h10 := K.le
  have hc := R.hc
  induction n with
  | zero =>
    intro k T hk hl
    rw [post_rating_int_rate.L1_eq]
    simp only [post_rating_int_rate.B1, beqT, beqF, exF_seq, exF_region, exF_block, exF_cond, exF_ret, exF_exit, exF_skip, runL, wantL, stepL, evL, evC, LEnv.at, putL, loadFine, loadL, cellsAt, Trk.putNew, Trk.up, Trk.touch, Trk.gives, Trk.calm, Trk.hit, opdsOf, Trk.fresh, LEnv.keep, LEnv.ofFrom, List.map_cons, List.map_nil, nbeq, nble, nblt, ofAV, ofAVs, lenL, bin_add, bin_sub, bin_mul, bin_eql, bin_neq, bin_lss, bin_leq, bin_gtr, bin_geq, natL_nat, natL_zero, natL_one, natL_two, Nat.zero_mul, List.any_cons, List.any_nil, Bool.or_false, Bool.false_or, Bool.true_or, Bool.or_true, Bool.and_true, Bool.true_and, Bool.and_false, Bool.false_and, Bool.not_true, Bool.not_false, Nat.reduceBEq, Nat.reduceEqDiff, decide_true, decide_false, cond_true, cond_false, List.filter_nil, List.filter_cons, Nat.reduceAdd, Nat.reduceLeDiff, reduceCtorEq, List.length_nil, List.length_cons, Nat.mul_one, if_true, if_false, Bool.false_eq_true, eq_self, and_true, true_and, retL, resultsL, resAllL, resOfL, List.append_nil, List.nil_append, List.cons_append, true_or, or_true, false_or, or_false, false_and, and_false, not_true_eq_false, not_false_eq_true, ne_eq, unL, trim_nil, views_pures, LV.pures, LV.pure, freeze, Nat.reduceDiv, Int.reduceEq, Int.reduceLT, Int.reduceLE, Int.natCast_zero, LV.cells, allocL, List.getElem?_cons_zero, List.getElem?_cons_succ, storeL, spliceL, List.take_zero, List.take_succ_cons, List.drop_zero, List.drop_succ_cons, List.drop_nil, List.take_nil, Nat.le_refl, Nat.reduceMul, List.set_cons_zero, List.set_cons_succ, LV.scalar, List.all_cons, List.all_nil, Nat.lt_add_one, Nat.zero_lt_one, Nat.reduceLT, Nat.lt_irrefl, fillL, List.length_append, foldIntL, kind_beq, pures_int, solids_int, plains_int, unders_int, scalars_int, show ¬ ((k : Int) < (L : Int) - 1) by omega, foldP]
  | succ n ih =>
    intro k T hk hl
    have hi : n + 1 < s.length := by omega
    have hiL : n + 1 < L := by omega
    have hiT : n + 1 < T.length := by omega
    obtain ⟨p0, p1⟩ := K.hi (n + 1) (by omega) hi
    obtain ⟨p, hp⟩ := Int.eq_ofNat_of_zero_le p0
    have hgi : s[n + 1] = (p : Int) := by rw [← hp]; simp [List.getD_eq_getElem?_getD, hi]
    have hpL : p < L := by omega
    have hpT : p < T.length := by omega
    have gp : T.getD p (0, 0, 0) = T[p] := by simp [List.getD_eq_getElem?_getD, hpT]
    have gi : T.getD (n + 1) (0, 0, 0) = T[n + 1] := by simp [List.getD_eq_getElem?_getD, hiT]
    have hw1 : IntKind.i64.wrap ((L : Int) - 1) = (L : Int) - 1 := wrap_in (by omega)
    have hw2 : IntKind.i64.wrap ((L : Int) - 1 - (k : Int)) = ((n + 1 : Nat) : Int) := by rw [wrap_in (by omega)]; omega
    have l1 : (fl T).length = L * 3 := by rw [fl_len, hl]
    have sg := fl_seg T (n + 1) hiT
    have a0 := fl_at0 T p hpT
    have a1 := fl_at1 T p hpT
    have a2 := fl_at2 T p hpT
    have ih := ih (k + 1) (T.set p (mergeP r T[p] T[n + 1])) (by omega) (by simpa using hl)
    rw [post_rating_int_rate.L1_eq, foldP, hp, Int.toNat_natCast, gp, gi]
    unfold mergeP at ih ⊢
    have st := fl_set T p hpT (r.J T[p].1 (r.O (r.O T[n + 1].1 T[n + 1].2.1) T[n + 1].2.2)) (r.O (r.J T[p].2.1 (r.O T[n + 1].1 T[n + 1].2.1)) (r.J T[p].2.2 T[n + 1].1)) (r.J T[p].2.2 T[n + 1].2.1)
    simp only [post_rating_int_rate.B1, beqT, beqF, exF_seq, exF_region, exF_block, exF_cond, exF_ret, exF_exit, exF_skip, runL, wantL, stepL, evL, evC, LEnv.at, putL, loadFine, loadL, cellsAt, Trk.putNew, Trk.up, Trk.touch, Trk.gives, Trk.calm, Trk.hit, opdsOf, Trk.fresh, LEnv.keep, LEnv.ofFrom, List.map_cons, List.map_nil, nbeq, nble, nblt, ofAV, ofAVs, lenL, bin_add, bin_sub, bin_mul, bin_eql, bin_neq, bin_lss, bin_leq, bin_gtr, bin_geq, natL_nat, natL_zero, natL_one, natL_two, Nat.zero_mul, List.any_cons, List.any_nil, Bool.or_false, Bool.false_or, Bool.true_or, Bool.or_true, Bool.and_true, Bool.true_and, Bool.and_false, Bool.false_and, Bool.not_true, Bool.not_false, Nat.reduceBEq, Nat.reduceEqDiff, decide_true, decide_false, cond_true, cond_false, List.filter_nil, List.filter_cons, Nat.reduceAdd, Nat.reduceLeDiff, reduceCtorEq, List.length_nil, List.length_cons, Nat.mul_one, if_true, if_false, Bool.false_eq_true, eq_self, and_true, true_and, retL, resultsL, resAllL, resOfL, List.append_nil, List.nil_append, List.cons_append, true_or, or_true, false_or, or_false, false_and, and_false, not_true_eq_false, not_false_eq_true, ne_eq, unL, trim_nil, views_pures, LV.pures, LV.pure, freeze, Nat.reduceDiv, Int.reduceEq, Int.reduceLT, Int.reduceLE, Int.natCast_zero, LV.cells, allocL, List.getElem?_cons_zero, List.getElem?_cons_succ, storeL, spliceL, List.take_zero, List.take_succ_cons, List.drop_zero, List.drop_succ_cons, List.drop_nil, List.take_nil, Nat.le_refl, Nat.reduceMul, List.set_cons_zero, List.set_cons_succ, LV.scalar, List.all_cons, List.all_nil, Nat.lt_add_one, Nat.zero_lt_one, Nat.reduceLT, Nat.lt_irrefl, fillL, List.length_append, foldIntL, kind_beq, pures_int, solids_int, plains_int, unders_int, scalars_int, show ((k : Int) < (L : Int) - 1) by omega, hL, hw1, hw2, hi, hiL, hpL, Nat.zero_add, Nat.add_zero, l1, show (n + 1) * 3 + 3 ≤ L * 3 by omega, show p * 3 + 3 ≤ L * 3 by omega, sg, int_at _ _ _ hi, hgi, a0, a1, a2, R.hj, R.ho, st, trim, belowM, envVals, LV.unders, LV.under, fl_under, Nat.reduceLT, wrap_succ (show k + 1 < 9223372036854775808 by omega), ih]
def tabV (r : Rat) (must mustNot : Nat) (s : List Int) : List T3 := foldP r s (s.length - 1) (fillT r must mustNot s.length 0 (List.replicate s.length (0, 0, 0)))
def rateV (r : Rat) (must mustNot : Nat) (s : List Int) : T3 := (tabV r must mustNot s).getD 0 (0, 0, 0)
theorem fillT_len (r : Rat) (must mustNot : Nat) (n : Nat) : ∀ (k : Nat) (T : List T3), (fillT r must mustNot n k T).length = T.length := by
  induction n with
  | zero => intro k T; rfl
  | succ n ih => intro k T; rw [fillT, ih]; simp
theorem foldP_len (r : Rat) (s : List Int) (n : Nat) : ∀ (T : List T3), (foldP r s n T).length = T.length := by
  induction n with
  | zero => intro T; rfl
  | succ n ih => intro T; rw [foldP, ih]; simp
theorem rate_c (r : Rat) (must mustNot : Nat) (h1 : must < 1024) (h2 : mustNot < 1024) (nl ex : Bool) (sz : Nat) {s : List Int} (K : OkS s) (R : r.Ok s.length) (m : LMem) :
    clF LP n_post_rating_int_rate [.elt (r.cells must mustNot) 0, IL nl ex sz s] m = some (.P, .agg [.int .i64 (rateV r must mustNot s).1, .int .i64 (rateV r must mustNot s).2.1, .int .i64 (rateV r must mustNot s).2.2], m) := by
  have h10 := K.le
  have hpos := K.pos
  have f1 := rate_fill r must mustNot h1 h2 nl ex sz s s.length h10 R s.length 0 (List.replicate s.length (0, 0, 0)) (by omega) (by simp)
  have f2 := rate_fold r must mustNot nl ex sz K s.length rfl R (s.length - 1) 0 (fillT r must mustNot s.length 0 (List.replicate s.length (0, 0, 0))) (by omega) (by rw [fillT_len]; simp)
  have hz : zerosL [.int .i64 0, .int .i64 0, .int .i64 0] (s.length * 3) = fl (List.replicate s.length (0, 0, 0)) := flat_zeros t3 3 _ rfl (by omega) (0, 0, 0) rfl s.length
  simp only [Int.natCast_zero] at f1 f2
  have hl : (tabV r must mustNot s).length = s.length := by rw [tabV, foldP_len, fillT_len]; simp
  change exF LP post_rating_int_rate.L1 _ _ = some (.exit 2, _, [_, ⟨fl (tabV r must mustNot s), true⟩]) at f2
  have h0 : 0 < (tabV r must mustNot s).length := by omega
  have sg := fl_seg (tabV r must mustNot s) 0 h0
  have hg : rateV r must mustNot s = (tabV r must mustNot s)[0] := by simp [rateV, List.getD_eq_getElem?_getD, h0]
  rw [hg]
  have lf : (fl (tabV r must mustNot s)).length = s.length * 3 := by rw [fl_len, hl]
  simp only [Nat.zero_mul, List.drop_zero] at sg
  generalize tabV r must mustNot s = T at *
  have hw1 : IntKind.i64.wrap ((s.length : Int) - 1) = (s.length : Int) - 1 := wrap_in (by omega)
  have r1 : s.length * 24 ≤ roomMost := by unfold roomMost; omega
  have r2 : s.length ≤ roomMost := by unfold roomMost; omega
  refine call_P lp_post_rating_int_rate rfl (by simp [LV.pures, LV.pure]) (m1 := [⟨[.int .i64 T[0].1, .int .i64 T[0].2.1, .int .i64 T[0].2.2], true⟩, ⟨fl T, true⟩]) ?_ (by simp [LV.pures, LV.pure]) m
  simp only [post_rating_int_rate, post_rating_int_rate.B, beqT, beqF, exF_seq, exF_region, exF_block, exF_cond, exF_ret, exF_exit, exF_skip, runL, wantL, stepL, evL, evC, LEnv.at, putL, loadFine, loadL, cellsAt, Trk.putNew, Trk.up, Trk.touch, Trk.gives, Trk.calm, Trk.hit, opdsOf, Trk.fresh, LEnv.keep, LEnv.ofFrom, List.map_cons, List.map_nil, nbeq, nble, nblt, ofAV, ofAVs, lenL, bin_add, bin_sub, bin_mul, bin_eql, bin_neq, bin_lss, bin_leq, bin_gtr, bin_geq, natL_nat, natL_zero, natL_one, natL_two, Nat.zero_mul, List.any_cons, List.any_nil, Bool.or_false, Bool.false_or, Bool.true_or, Bool.or_true, Bool.and_true, Bool.true_and, Bool.and_false, Bool.false_and, Bool.not_true, Bool.not_false, Nat.reduceBEq, Nat.reduceEqDiff, decide_true, decide_false, cond_true, cond_false, List.filter_nil, List.filter_cons, Nat.reduceAdd, Nat.reduceLeDiff, reduceCtorEq, List.length_nil, List.length_cons, Nat.mul_one, if_true, if_false, Bool.false_eq_true, eq_self, and_true, true_and, retL, resultsL, resAllL, resOfL, List.append_nil, List.nil_append, List.cons_append, true_or, or_true, false_or, or_false, false_and, and_false, not_true_eq_false, not_false_eq_true, ne_eq, unL, trim_nil, views_pures, LV.pures, LV.pure, freeze, Nat.reduceDiv, Int.reduceEq, Int.reduceLT, Int.reduceLE, Int.natCast_zero, LV.cells, allocL, List.getElem?_cons_zero, List.getElem?_cons_succ, storeL, spliceL, List.take_zero, List.take_succ_cons, List.drop_zero, List.drop_succ_cons, List.drop_nil, List.take_nil, Nat.le_refl, Nat.reduceMul, List.set_cons_zero, List.set_cons_succ, LV.scalar, List.all_cons, List.all_nil, Nat.lt_add_one, Nat.zero_lt_one, Nat.reduceLT, Nat.lt_irrefl, fillL, List.length_append, foldIntL, kind_beq, pures_int, solids_int, plains_int, unders_int, scalars_int, r1, r2, hz, f1, hw1, f2, hpos, Nat.zero_add, Nat.add_zero, lf, show 3 ≤ s.length * 3 by omega, sg]
/-- The rating of a whole shore. -/
def wholeV (r : Rat) (must mustNot : Nat) (s : List Int) : Int := r.O (rateV r must mustNot s).1 (rateV r must mustNot s).2.1
theorem whole_c (r : Rat) (must mustNot : Nat) (h1 : must < 1024) (h2 : mustNot < 1024) (nl ex : Bool) (sz : Nat) {s : List Int} (K : OkS s) (R : r.Ok s.length) (m : LMem) :
    clF LP n_post_rating_int_whole [.elt (r.cells must mustNot) 0, IL nl ex sz s] m = some (.P, .int .i64 (wholeV r must mustNot s), m) := by
  have hr := fun m => rate_c r must mustNot h1 h2 nl ex sz K R m
  unfold wholeV
  generalize rateV r must mustNot s = x at *
  refine call_P lp_post_rating_int_whole rfl (by simp [LV.pures, LV.pure]) (m1 := [⟨[.int .i64 x.1, .int .i64 x.2.1, .int .i64 x.2.2], true⟩]) ?_ rfl m
  simp only [post_rating_int_whole, post_rating_int_whole.B, beqT, beqF, exF_seq, exF_region, exF_block, exF_cond, exF_ret, exF_exit, exF_skip, runL, wantL, stepL, evL, evC, LEnv.at, putL, loadFine, loadL, cellsAt, Trk.putNew, Trk.up, Trk.touch, Trk.gives, Trk.calm, Trk.hit, opdsOf, Trk.fresh, LEnv.keep, LEnv.ofFrom, List.map_cons, List.map_nil, nbeq, nble, nblt, ofAV, ofAVs, lenL, bin_add, bin_sub, bin_mul, bin_eql, bin_neq, bin_lss, bin_leq, bin_gtr, bin_geq, natL_nat, natL_zero, natL_one, natL_two, Nat.zero_mul, List.any_cons, List.any_nil, Bool.or_false, Bool.false_or, Bool.true_or, Bool.or_true, Bool.and_true, Bool.true_and, Bool.and_false, Bool.false_and, Bool.not_true, Bool.not_false, Nat.reduceBEq, Nat.reduceEqDiff, decide_true, decide_false, cond_true, cond_false, List.filter_nil, List.filter_cons, Nat.reduceAdd, Nat.reduceLeDiff, reduceCtorEq, List.length_nil, List.length_cons, Nat.mul_one, if_true, if_false, Bool.false_eq_true, eq_self, and_true, true_and, retL, resultsL, resAllL, resOfL, List.append_nil, List.nil_append, List.cons_append, true_or, or_true, false_or, or_false, false_and, and_false, not_true_eq_false, not_false_eq_true, ne_eq, unL, trim_nil, views_pures, LV.pures, LV.pure, freeze, Nat.reduceDiv, Int.reduceEq, Int.reduceLT, Int.reduceLE, Int.natCast_zero, LV.cells, allocL, List.getElem?_cons_zero, List.getElem?_cons_succ, storeL, spliceL, List.take_zero, List.take_succ_cons, List.drop_zero, List.drop_succ_cons, List.drop_nil, List.take_nil, Nat.le_refl, Nat.reduceMul, List.set_cons_zero, List.set_cons_succ, LV.scalar, List.all_cons, List.all_nil, Nat.lt_add_one, Nat.zero_lt_one, Nat.reduceLT, Nat.lt_irrefl, fillL, List.length_append, foldIntL, kind_beq, pures_int, solids_int, plains_int, unders_int, scalars_int, hr, R.ho, Nat.zero_add, Nat.add_zero]
end Go.Am.Post

/-
  Plain: the program's rating follows the rating by sets. No statement of the seat is proved here.
-/
set_option linter.unusedVariables false
set_option linter.unusedSimpArgs false
namespace Go.Am.Post
open SR Go.Am.G

/-- What is behind each place. -/
def par (s : List Int) (v : Nat) : Nat := if v < s.length then (s.getD v 0).toNat else 0
theorem par_lt {s : List Int} (K : OkS s) (v : Nat) (hv : v ≠ 0) : par s v < v := by
  unfold par
  split
  · rename_i h
    have := K.hi v (by omega) h; omega
  · omega
/-- A number follows a rating; t parts at most were put together. -/
structure Sim (r : Rat) (K : Type) [SR K] (pk : Nat → K) (R : Nat → Int → K → Prop) (n : Nat) : Prop where
  up : ∀ t x y, R t x y → R (t + 1) x y
  j : ∀ t x y x' y', t < 10 → R t x y → R t x' y' → R (t + 1) (r.J x x') (mul y y')
  o : ∀ t x y x' y', t < 12 → R t x y → R t x' y' → R t (r.O x x') (add y y')
  post : ∀ i, i < n → R 0 (r.post i) (pk i)
  none : R 0 r.none zero
  empty : R 0 r.empty one
variable {r : Rat} {K : Type} [SR K] {pk : Nat → K} {R : Nat → Int → K → Prop} {n : Nat}
def RT (R : Nat → Int → K → Prop) (t : Nat) (x : T3) (y : Tri K) : Prop := R t x.1 y.m ∧ R t x.2.1 y.r ∧ R t x.2.2 y.w
theorem sim_merge (H : Sim r K pk R n) {t : Nat} (ht : t < 10) {b o : T3} {b' o' : Tri K} (hb : RT R t b b') (ho : RT R t o o') : RT R (t + 1) (mergeP r b o) (mergeT b' o') := by
  obtain ⟨b1, b2, b3⟩ := hb
  obtain ⟨o1, o2, o3⟩ := ho
  have h1 := H.o _ _ _ _ _ (by omega) o1 o2
  refine ⟨H.j _ _ _ _ _ ht b1 (H.o _ _ _ _ _ (by omega) h1 o3), H.o _ _ _ _ _ (by omega) (H.j _ _ _ _ _ ht b2 h1) (H.j _ _ _ _ _ ht b3 o1), H.j _ _ _ _ _ ht b3 o2⟩
theorem sim_fold (H : Sim r K pk R n) {s : List Int} (Ks : OkS s) (k : Nat) : ∀ (t : Nat) (T : List T3) (T' : Nat → Tri K), t + k ≤ 10 → k < s.length → T.length = s.length → (∀ v, v < s.length → RT R t (T.getD v (0, 0, 0)) (T' v)) →
    ∀ v, v < s.length → RT R (t + k) ((foldP r s k T).getD v (0, 0, 0)) (foldT (par s) k T' v) := by
  induction k with
  | zero => intro t T T' _ _ _ h v hv; exact h v hv
  | succ k ih =>
    intro t T T' ht hk hl h v hv
    rw [foldP, foldT, show t + (k + 1) = t + 1 + k by omega]
    have hp : par s (k + 1) = (s.getD (k + 1) 0).toNat := by rw [par, if_pos hk]
    have hlt := par_lt Ks (k + 1) (by omega)
    rw [← hp]
    refine ih (t + 1) _ _ (by omega) (by omega) (by simpa using hl) (fun v hv => ?_) v hv
    have hm := sim_merge H (by omega) (h (par s (k + 1)) (by omega)) (h (k + 1) hk)
    by_cases c : v = par s (k + 1)
    · subst c
      have : (T.set (par s (k + 1)) (mergeP r (T.getD (par s (k + 1)) (0, 0, 0)) (T.getD (k + 1) (0, 0, 0)))).getD (par s (k + 1)) (0, 0, 0) = mergeP r (T.getD (par s (k + 1)) (0, 0, 0)) (T.getD (k + 1) (0, 0, 0)) := by
        simp [List.getD_eq_getElem?_getD, List.getElem?_set, show par s (k + 1) < T.length by omega]
      rw [this]
      simp only [setT, if_true]
      exact hm
    · have : ∀ x, (T.set (par s (k + 1)) x).getD v (0, 0, 0) = T.getD v (0, 0, 0) := fun x => by
        have : ¬ par s (k + 1) = v := fun e => c e.symm
        simp [List.getD_eq_getElem?_getD, List.getElem?_set, this]
      rw [this]
      simp only [setT, if_neg c]
      exact ⟨H.up _ _ _ (h v hv).1, H.up _ _ _ (h v hv).2.1, H.up _ _ _ (h v hv).2.2⟩
theorem fill_at (r : Rat) (must mustNot : Nat) (n : Nat) : ∀ (k : Nat) (T : List T3) (v : Nat), v < T.length → (fillT r must mustNot n k T).getD v (0, 0, 0) = if k ≤ v ∧ v < k + n then rowT r must mustNot v else T.getD v (0, 0, 0) := by
  induction n with
  | zero => intro k T v hv; rw [fillT, if_neg (by omega)]
  | succ n ih =>
    intro k T v hv
    rw [fillT, ih _ _ _ (by simpa using hv)]
    by_cases h : k + 1 ≤ v ∧ v < k + 1 + n
    · rw [if_pos h, if_pos (by omega)]
    · rw [if_neg h]
      by_cases c : v = k
      · subst c
        rw [if_pos (by omega)]
        simp [List.getD_eq_getElem?_getD, List.getElem?_set, hv]
      · rw [if_neg (by omega)]
        have : ¬ k = v := fun e => c e.symm
        simp [List.getD_eq_getElem?_getD, List.getElem?_set, this]
/-- The rating of a whole shore follows the sum over all sets. -/
theorem whole_sim {s : List Int} (H : Sim r K pk R s.length) (Ks : OkS s) (must mustNot : Nat) :
    R s.length (wholeV r must mustNot s) (sumL (fun S => if allN (okS (par s) (fun v => must.testBit v) (fun v => mustNot.testBit v) S) s.length then costN pk S s.length else zero) (asc 0 s.length)) := by
  have hpos := Ks.pos
  have h10 := Ks.le
  obtain ⟨n, hn⟩ : ∃ n, s.length = n + 1 := ⟨s.length - 1, by omega⟩
  have hf := sim_fold H Ks n 0 (fillT r must mustNot s.length 0 (List.replicate s.length (0, 0, 0))) (startT pk (fun v => must.testBit v) (fun v => mustNot.testBit v)) (by omega) (by omega) (by rw [fillT_len]; simp) (fun v hv => by
    rw [fill_at _ _ _ _ _ _ _ (by simpa using hv), if_pos (by omega)]
    simp only [rowT, startT, Nat.testBit_eq_decide_div_mod_eq, decide_eq_true_eq]
    refine ⟨?_, H.none, ?_⟩
    · dsimp only; split
      · exact H.none
      · exact H.post v hv
    · dsimp only; split
      · exact H.none
      · exact H.empty) 0 (by omega)
  have hw := whole_sum (par s) (par_lt Ks) pk (fun v => must.testBit v) (fun v => mustNot.testBit v) n
  have hr : R (0 + n) (wholeV r must mustNot s) (add (foldT (par s) n (startT pk (fun v => must.testBit v) (fun v => mustNot.testBit v)) 0).m (foldT (par s) n (startT pk (fun v => must.testBit v) (fun v => mustNot.testBit v)) 0).r) := by
    have e : rateV r must mustNot s = (foldP r s n (fillT r must mustNot s.length 0 (List.replicate s.length (0, 0, 0)))).getD 0 (0, 0, 0) := by
      rw [rateV, tabV, hn, Nat.add_sub_cancel]
    rw [wholeV, e]
    exact H.o _ _ _ _ _ (by omega) hf.1 hf.2.1
  rw [hn, ← hw]
  rw [Nat.zero_add] at hr
  exact H.up _ _ _ hr

/-! ### What is least -/
def RMin (t : Nat) (x : Int) (y : MinP) : Prop := match y with
  | some c => x = (c : Int) ∧ c ≤ 20 * 2 ^ t
  | none => 1048576 ≤ x ∧ x ≤ 1048576 * 2 ^ t
def minR (g : Nat) (cap : List LV) (price : Nat → Nat) : Rat := ⟨g, cap, fun i => (price i : Int), 0, n_post_priced_1, fun x y => IntKind.i64.wrap (x + y), n_post_priced_2, fun x y => if y < x then y else x, 1048576⟩
theorem pow_le {t : Nat} (h : t < 12) : 2 ^ t ≤ 2048 := Nat.pow_le_pow_right (n := 2) (by omega) (show t ≤ 11 by omega)
theorem sim_min (g : Nat) (cap : List LV) (price : Nat → Nat) (n : Nat) (hp : ∀ i, i < n → price i ≤ 20) : Sim (minR g cap price) MinP (fun i => some (price i)) RMin n where
  up t x y h := by
    have e : 2 ^ (t + 1) = 2 * 2 ^ t := by rw [Nat.pow_succ, Nat.mul_comm]
    have e' : (2 : Int) ^ (t + 1) = 2 * 2 ^ t := by rw [Int.pow_succ, Int.mul_comm]
    have : (0 : Int) ≤ 2 ^ t := Int.le_of_lt (Int.pow_pos (by omega))
    cases y <;> simp only [RMin, e, e'] at h ⊢ <;> omega
  j t x y x' y' ht h h' := by
    have e : 2 ^ (t + 1) = 2 * 2 ^ t := by rw [Nat.pow_succ, Nat.mul_comm]
    have e' : (2 : Int) ^ (t + 1) = 2 * 2 ^ t := by rw [Int.pow_succ, Int.mul_comm]
    have hb := pow_le (show t < 12 by omega)
    have hc : ((2 ^ t : Nat) : Int) = (2 : Int) ^ t := by simp
    have hw : IntKind.i64.wrap (x + x') = x + x' := by
      apply wrap_in
      cases y <;> cases y' <;> simp only [RMin] at h h' <;> omega
    show RMin (t + 1) (IntKind.i64.wrap (x + x')) (MinP.mul y y')
    rw [hw]
    cases y <;> cases y' <;> simp only [RMin, MinP.mul, e, e'] at h h' ⊢ <;> omega
  o t x y x' y' ht h h' := by
    have hb := pow_le ht
    have hc : ((2 ^ t : Nat) : Int) = (2 : Int) ^ t := by simp
    show RMin t (if x' < x then x' else x) (MinP.add y y')
    cases y <;> cases y' <;> simp only [RMin, MinP.add] at h h' ⊢ <;> split <;> omega
  post i hi := ⟨rfl, by have := hp i hi; simpa using this⟩
  none := by simp [RMin, minR, SR.zero]
  empty := by simp [RMin, minR, SR.one]
theorem wh_eq {s : List Int} (Ks : OkS s) (g : Nat) (cap : List LV) (price : Nat → Nat) (hp : ∀ i, i < s.length → price i ≤ 20) (must mustNot : Nat) :
    RMin s.length (wholeV (minR g cap price) must mustNot s) (wh (par s) s.length price (fun v => must.testBit v) (fun v => mustNot.testBit v)) := by
  have h := whole_sim (sim_min g cap price s.length hp) Ks must mustNot
  have e : sumL (K := MinP) (fun S => if allN (okS (par s) (fun v => must.testBit v) (fun v => mustNot.testBit v) S) s.length then costN (fun i => (some (price i) : MinP)) S s.length else zero) (asc 0 s.length) = wh (par s) s.length price (fun v => must.testBit v) (fun v => mustNot.testBit v) := by
    unfold wh
    refine sumL_congr _ _ _ fun S hS => ?_
    rw [costN_minp, cst_cost price _ S hS]
    rfl
  rw [e] at h
  exact h

/-! ### How many -/
theorem wrap_dvd (n : Int) : (18446744073709551616 : Int) ∣ IntKind.i64.wrap n - n := by
  simp only [IntKind.wrap, IntKind.bits, IntKind.signed, Bool.true_and, decide_eq_true_eq, show (2 : Int) ^ 64 = 18446744073709551616 from rfl, show (2 : Int) ^ (64 - 1) = 9223372036854775808 from rfl]
  split <;> omega
def RCnt (_ : Nat) (x : Int) (y : Nat) : Prop := (18446744073709551616 : Int) ∣ x - (y : Int)
def cntR : Rat := ⟨n_post_same, [], fun _ => 1, 1, n_post_Count_1, fun x y => IntKind.i64.wrap (x * y), n_post_Count_2, fun x y => IntKind.i64.wrap (x + y), 0⟩
theorem sim_cnt (n : Nat) : Sim cntR Nat (fun _ => 1) RCnt n where
  up t x y h := h
  j t x y x' y' ht h h' := by
    show (18446744073709551616 : Int) ∣ IntKind.i64.wrap (x * x') - ((y * y' : Nat) : Int)
    have e : IntKind.i64.wrap (x * x') - ((y * y' : Nat) : Int) = (IntKind.i64.wrap (x * x') - x * x') + ((x - y) * x' + y * (x' - y')) := by
      rw [Int.natCast_mul, Int.sub_mul, Int.mul_sub]; omega
    rw [e]
    exact Int.dvd_add (wrap_dvd _) (Int.dvd_add (Int.dvd_mul_of_dvd_left h) (Int.dvd_mul_of_dvd_right h'))
  o t x y x' y' ht h h' := by
    show (18446744073709551616 : Int) ∣ IntKind.i64.wrap (x + x') - ((y + y' : Nat) : Int)
    have := wrap_dvd (x + x')
    simp only [RCnt] at h h'
    omega
  post i hi := by show (18446744073709551616 : Int) ∣ _; simp [cntR]
  none := by show (18446744073709551616 : Int) ∣ _; simp [cntR, SR.zero]
  empty := by show (18446744073709551616 : Int) ∣ _; simp [cntR, SR.one]
theorem wrap_range (n : Int) : -9223372036854775808 ≤ IntKind.i64.wrap n ∧ IntKind.i64.wrap n ≤ 9223372036854775807 := by
  simp only [IntKind.wrap, IntKind.bits, IntKind.signed, Bool.true_and, decide_eq_true_eq, show (2 : Int) ^ 64 = 18446744073709551616 from rfl, show (2 : Int) ^ (64 - 1) = 9223372036854775808 from rfl]
  split <;> omega
theorem asc_length (d : Nat) : ∀ i, (asc i d).length = 2 ^ d := by
  induction d with
  | zero => intro i; rfl
  | succ d ih =>
    intro i
    have h := ih (i + 1)
    have hp : 0 < 2 ^ d := Nat.pow_pos (by omega)
    simp only [asc, List.length_cons, List.length_append, List.length_map, List.length_tail, h, Nat.pow_succ]
    omega
/-- All posts that guard are counted. -/
theorem count_eq {s : List Int} (Ks : OkS s) : wholeV cntR 0 0 s = (((asc 0 s.length).filter (dom (par s) s.length)).length : Nat) := by
  have h := whole_sim (sim_cnt s.length) Ks 0 0
  have e : sumL (K := Nat) (fun S => if allN (okS (par s) (fun v => (0 : Nat).testBit v) (fun v => (0 : Nat).testBit v) S) s.length then costN (fun _ => (1 : Nat)) S s.length else zero) (asc 0 s.length) = ((asc 0 s.length).filter (dom (par s) s.length)).length := by
    rw [← sum_count]
    refine sumL_congr _ _ _ fun S hS => ?_
    have e1 : (fun v => (0 : Nat).testBit v) = fun _ => false := by funext v; simp
    rw [e1]
    have e2 : ∀ k, costN (fun _ => (1 : Nat)) S k = 1 := by
      intro k
      unfold costN
      induction k with
      | zero => rfl
      | succ k ih => simp only [prodN, ih]; split <;> rfl
    rw [e2]
    rfl
  rw [e] at h
  have hle : ((asc 0 s.length).filter (dom (par s) s.length)).length ≤ 1024 := by
    refine Nat.le_trans (List.length_filter_le _ _) ?_
    rw [asc_length]
    exact Nat.pow_le_pow_right (n := 2) (by omega) Ks.le
  have hr := wrap_range ((rateV cntR 0 0 s).1 + (rateV cntR 0 0 s).2.1)
  change _ ≤ wholeV cntR 0 0 s ∧ wholeV cntR 0 0 s ≤ _ at hr
  change (18446744073709551616 : Int) ∣ _ at h
  omega
end Go.Am.Post


