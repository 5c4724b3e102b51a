/-
  What functions of chapter 13 compute, outright 1: a tide by numbers.
-/
import Derived.Test.YtgogknjedpmcgaaWashC5
set_option linter.unusedVariables false
set_option linter.unusedSimpArgs false
set_option maxRecDepth 10000
namespace Go.Am.Wash
open Go.Am.G

/-! ### A thing is taken out of a list -/
theorem app_del (m : LMem) (i : Nat) (a b : List Int) (x : Int) (Z : List LV) (c c' : Nat) (L : Nat) (h : m[i]? = some ⟨ints (a ++ x :: b) ++ Z, true⟩) (hL : a.length + 1 + b.length + Z.length = L) (hc : a.length + b.length ≤ c) (hs : L < 1000000) :
    ∃ C, appendL m 1 8 (.sl i 0 a.length c 1 1 L) (.sl i (a.length + 1) b.length c' 1 1 L) = some (.sl i 0 (a.length + b.length) c 1 1 L, m.set i ⟨C, true⟩) ∧ C.length = L ∧ C.take (a.length + b.length) = ints (a ++ b) ∧ C.drop (a.length + b.length + 1) = Z := by
  have hlen : (ints (a ++ x :: b) ++ Z).length = L := by simp; omega
  have c1 : contents m 1 (.sl i 0 a.length c 1 1 L) = some (ints a, a.length) := by
    simp only [contents, h]
    simp only [nbeq, nble, hlen, Nat.mul_one, Nat.zero_add, show a.length ≤ L by omega, decide_true, Bool.and_self, cond_true, List.drop_zero]
    congr 2
    rw [List.take_append_of_le_length (by simp), ← List.map_take]
    simp
  have c2 : contents m 1 (.sl i (a.length + 1) b.length c' 1 1 L) = some (ints b, b.length) := by
    simp only [contents, h]
    simp only [nbeq, nble, hlen, Nat.mul_one, show a.length + 1 + b.length ≤ L by omega, decide_true, Bool.and_self, cond_true]
    congr 2
    rw [List.drop_append_of_le_length (by simp), ← List.map_drop]
    have : (a ++ x :: b).drop (a.length + 1) = b := by
      rw [← List.drop_drop, List.drop_left]; rfl
    rw [this, List.take_append_of_le_length (by simp), List.take_of_length_le (by simp)]
  by_cases hb : b.length = 0
  · have hb' : b = [] := List.length_eq_zero_iff.1 hb
    subst hb'
    have hdz : (ints (a ++ [x]) ++ Z).drop (ints (a ++ [x])).length = Z := List.drop_left
    refine ⟨ints (a ++ [x]) ++ Z, ?_, by simpa using hlen, by simp, by simpa using hdz⟩
    have hm : m.set i ⟨ints (a ++ [x]) ++ Z, true⟩ = m := by
      apply List.ext_getElem?
      intro j
      rw [List.getElem?_set]
      by_cases hj : i = j
      · subst hj
        have hi := (List.getElem?_eq_some_iff.1 h).1
        simp only [if_true, hi]
        exact h.symm
      · simp [hj]
    rw [hm]
    unfold appendL
    simp only [c1, c2]
    have hc2 : a.length ≤ c := by simpa using hc
    simp [nbeq, nble, hc2]
  · have hroom : (Nat.ble ((a.length + b.length) * 8) roomMost && Nat.ble (a.length + b.length) roomMost && (ints b).all LV.scalar) = true := by
      rw [scalars_int]
      simp only [roomMost, nble, Bool.and_true, Bool.and_eq_true, decide_eq_true_eq]
      omega
    have hsp : spliceL (ints (a ++ x :: b) ++ Z) (0 + a.length * 1) (ints b) = ints a ++ ints b ++ (ints (a ++ x :: b) ++ Z).drop (a.length + b.length) := by
      unfold spliceL
      rw [Nat.mul_one, Nat.zero_add]
      congr 1
      · rw [List.take_append_of_le_length (by simp), ← List.map_take]; simp
      · congr 1; simp
    refine ⟨ints a ++ ints b ++ (ints (a ++ x :: b) ++ Z).drop (a.length + b.length), ?_, ?_, ?_, ?_⟩
    · unfold appendL
      simp only [c1, c2, hroom, h]
      simp only [nbeq, hb, decide_false, cond_false, cond_true, nble, hc, decide_true]
      rw [hsp]
      simp [show a.length + b.length ≤ L by omega]
    · simp only [List.length_append, List.length_drop, List.length_map, List.length_cons]; omega
    · rw [List.take_append_of_le_length (by simp), List.take_of_length_le (by simp)]
      simp
    · rw [List.drop_append, List.drop_eq_nil_of_le (by simp), List.nil_append, List.drop_drop]
      simp only [List.length_append, List.length_map]
      rw [show a.length + b.length + (a.length + b.length + 1 - (a.length + b.length)) = (ints (a ++ x :: b)).length + 0 by simp; omega, List.drop_append]
      simp
theorem delete_c (m : LMem) (i : Nat) (a b : List Int) (x : Int) (Z : List LV) (c : Nat) (L : Nat) (h : m[i]? = some ⟨ints (a ++ x :: b) ++ Z, true⟩) (hL : a.length + 1 + b.length + Z.length = L) (hc : a.length + 1 + b.length ≤ c) (hs : L < 1000000) :
    clF LP n_slices_Delete_int_int [.sl i 0 (a.length + 1 + b.length) c 1 1 L, .int .i64 ((a.length : Nat) : Int), .int .i64 ((a.length + 1 : Nat) : Int)] m = some (.W, .sl i 0 (a.length + b.length) c 1 1 L, m.set i ⟨ints (a ++ b) ++ .int .i64 0 :: Z, true⟩) := by
  obtain ⟨C, h1, h2, h3, h4⟩ := app_del m i a b x Z c (c - (a.length + 1)) L h hL (by omega) hs
  have hi := (List.getElem?_eq_some_iff.1 h).1
  have hb1 : a.length + 1 + b.length - (a.length + 1) = b.length := by omega
  have hcl : clrL (m.set i ⟨C, true⟩) (.int .i64 0) (.sl i (a.length + b.length) 1 (c - (a.length + b.length)) 1 1 L) = some (m.set i ⟨ints (a ++ b) ++ .int .i64 0 :: Z, true⟩) := by
    simp only [clrL, List.getElem?_set, if_true, hi, List.set_set]
    simp only [nbeq, nble, h2, show a.length + b.length + 1 ≤ L by omega, decide_true, AV.scalar, Bool.and_self, cond_true, spliceL, h3]
    simp only [List.replicate, List.length_cons, List.length_nil, h4, ofAV]
    simp
  have ht : trim m.length [.sl i 0 (a.length + b.length) c 1 1 L] (m.set i ⟨ints (a ++ b) ++ .int .i64 0 :: Z, true⟩) = m.set i ⟨ints (a ++ b) ++ .int .i64 0 :: Z, true⟩ := trim_le _ _ _ (by simp)
  conv => rhs; rw [← ht]
  refine call_W lp_slices_Delete_int_int rfl ?_
  have e1 : ¬ (a.length : Int) = ((a.length + 1 : Nat) : Int) := by omega
  simp only [slices_Delete_int_int, slices_Delete_int_int.B, beqT, beqF, exF_seq, exF_region, exF_block, exF_cond, exF_ret, exF_exit, exF_skip, runL, wantL, stepL, evL, LEnv.at, putL, loadFine, loadL, cellsAt, Trk.putNew, Trk.up, Trk.touch, Trk.gives, Trk.calm, Trk.hit, opdsOf, Trk.fresh, LEnv.keep, LEnv.ofFrom, List.map_cons, List.map_nil, nbeq, nble, nblt, ofAV, ofAVs, lenL, bin_add, bin_sub, bin_mul, bin_eql, bin_neq, bin_lss, bin_leq, bin_gtr, bin_geq, natL_nat, natL_zero, natL_one, natL_two, Nat.zero_mul, List.any_cons, List.any_nil, Bool.or_false, Bool.false_or, Bool.true_or, Bool.or_true, Bool.and_true, Bool.true_and, Bool.and_false, Bool.false_and, Bool.not_true, Bool.not_false, Nat.reduceBEq, Nat.reduceEqDiff, decide_true, decide_false, cond_true, cond_false, List.filter_nil, List.filter_cons, Nat.reduceAdd, Nat.reduceLeDiff, reduceCtorEq, List.length_nil, List.length_cons, Nat.mul_one, if_true, if_false, Bool.false_eq_true, eq_self, and_true, true_and, retL, resultsL, resAllL, resOfL, List.append_nil, List.nil_append, List.cons_append, true_or, or_true, false_or, or_false, false_and, and_false, not_true_eq_false, not_false_eq_true, ne_eq, unL, trim_nil, views_pures, LV.pures, LV.pure, freeze, Nat.reduceDiv, Int.reduceEq, Int.reduceLT, Int.reduceLE, Int.natCast_zero, LV.cells, allocL, List.getElem?_cons_zero, List.getElem?_cons_succ, storeL, spliceL, List.take_zero, List.take_succ_cons, List.drop_zero, List.drop_succ_cons, List.drop_nil, List.take_nil, Nat.le_refl, Nat.reduceMul, List.set_cons_zero, List.set_cons_succ, LV.scalar, List.all_cons, List.all_nil, Nat.lt_add_one, Nat.zero_lt_one, Nat.reduceLT, Nat.lt_irrefl, fillL, List.length_append, foldIntL, kind_beq, pures_int, solids_int, plains_int, unders_int, scalars_int, sliceL, optNatL, Option.map_some, Option.map_none, Option.isSome_some, Option.isSome_none, Bool.or_true, show a.length + 1 + b.length ≤ c by omega, show a.length + 1 ≤ a.length + 1 + b.length by omega, show a.length ≤ a.length + 1 by omega, e1, show a.length ≤ a.length + 1 + b.length by omega, hb1, show a.length ≤ c by omega, Nat.zero_le, Nat.zero_add, Nat.sub_zero, h1]
  simp only [beqT, beqF, exF_seq, exF_region, exF_block, exF_cond, exF_ret, exF_exit, exF_skip, runL, wantL, stepL, evL, LEnv.at, putL, loadFine, loadL, cellsAt, Trk.putNew, Trk.up, Trk.touch, Trk.gives, Trk.calm, Trk.hit, opdsOf, Trk.fresh, LEnv.keep, LEnv.ofFrom, List.map_cons, List.map_nil, nbeq, nble, nblt, ofAV, ofAVs, lenL, bin_add, bin_sub, bin_mul, bin_eql, bin_neq, bin_lss, bin_leq, bin_gtr, bin_geq, natL_nat, natL_zero, natL_one, natL_two, Nat.zero_mul, List.any_cons, List.any_nil, Bool.or_false, Bool.false_or, Bool.true_or, Bool.or_true, Bool.and_true, Bool.true_and, Bool.and_false, Bool.false_and, Bool.not_true, Bool.not_false, Nat.reduceBEq, Nat.reduceEqDiff, decide_true, decide_false, cond_true, cond_false, List.filter_nil, List.filter_cons, Nat.reduceAdd, Nat.reduceLeDiff, reduceCtorEq, List.length_nil, List.length_cons, Nat.mul_one, if_true, if_false, Bool.false_eq_true, eq_self, and_true, true_and, retL, resultsL, resAllL, resOfL, List.append_nil, List.nil_append, List.cons_append, true_or, or_true, false_or, or_false, false_and, and_false, not_true_eq_false, not_false_eq_true, ne_eq, unL, trim_nil, views_pures, LV.pures, LV.pure, freeze, Nat.reduceDiv, Int.reduceEq, Int.reduceLT, Int.reduceLE, Int.natCast_zero, LV.cells, allocL, List.getElem?_cons_zero, List.getElem?_cons_succ, storeL, spliceL, List.take_zero, List.take_succ_cons, List.drop_zero, List.drop_succ_cons, List.drop_nil, List.take_nil, Nat.le_refl, Nat.reduceMul, List.set_cons_zero, List.set_cons_succ, LV.scalar, List.all_cons, List.all_nil, Nat.lt_add_one, Nat.zero_lt_one, Nat.reduceLT, Nat.lt_irrefl, fillL, List.length_append, foldIntL, kind_beq, pures_int, solids_int, plains_int, unders_int, scalars_int, sliceL, optNatL, Option.map_some, Option.map_none, Option.isSome_none, natL_nat, Nat.zero_add, show a.length + 1 + b.length ≤ c by omega, show a.length + b.length ≤ a.length + 1 + b.length by omega, show a.length + 1 + b.length - (a.length + b.length) = 1 by omega, hcl]

/-! ### A tide by numbers -/
def drawF (bs : List Nat) : Nat → Nat → List Nat → List Nat → List Nat
  | 0, _, _, out => out
  | d + 1, i, left, out => drawF bs d (i + 1) (left.eraseIdx (nth bs i % left.length)) (out ++ [nth left (nth bs i % left.length)])
def drawN (n : Nat) (bs : List Nat) : List Nat := drawF bs n 0 (List.range n) []
theorem ers_perm : ∀ (l : List Nat) (k : Nat) (h : k < l.length), (l[k] :: l.eraseIdx k).Perm l
  | a :: r, 0, _ => by simp
  | a :: r, k + 1, h => by
    have := ers_perm r k (by simpa using h)
    simp only [List.getElem_cons_succ, List.eraseIdx_cons_succ]
    exact (List.Perm.swap _ _ _).trans (this.cons a)
theorem drawF_perm (bs : List Nat) (n : Nat) (d : Nat) : ∀ (i : Nat) (left out : List Nat), left.length = d → (out ++ left).Perm (List.range n) → (drawF bs d i left out).Perm (List.range n) := by
  induction d with
  | zero => intro i left out h hp; rw [List.length_eq_zero_iff.1 h, List.append_nil] at hp; exact hp
  | succ d ih =>
    intro i left out h hp
    rw [drawF]
    have hk : nth bs i % left.length < left.length := Nat.mod_lt _ (by omega)
    generalize nth bs i % left.length = k at hk
    refine ih _ _ _ (by rw [List.length_eraseIdx, if_pos hk]; omega) (List.Perm.trans ?_ hp)
    rw [List.append_assoc]
    refine List.Perm.append_left _ ?_
    rw [nth_at' _ _ hk]
    exact ers_perm left k hk
theorem drawN_td {n : Nat} (h1 : 1 ≤ n) (h7 : n ≤ 7) (bs : List Nat) : Td (drawN n bs) ∧ (drawN n bs).length = n := by
  have hp : (drawN n bs).Perm (List.range n) := drawF_perm bs n n 0 _ _ (by simp) (by simp)
  have hl : (drawN n bs).length = n := by rw [hp.length_eq]; simp
  refine ⟨⟨⟨rfl, ?_, ?_⟩, by omega, by omega⟩, hl⟩
  · exact hp.nodup_iff.2 List.nodup_range
  · intro x hx
    rw [hl]
    simpa using (hp.mem_iff).1 hx

abbrev bys (l : List Nat) : List LV := (ci l).map (LV.int .u8)
theorem bys_at (l : List Nat) (i : Nat) (h : i < l.length) : (bys l)[i]? = some (.int .u8 ((l[i] : Nat) : Int)) := by simp [h]
theorem draw_left (bs : List Nat) (n : Nat) (hn : n ≤ 7) (d : Nat) : ∀ (x : Nat) (m0 : LMem) (v6 : LV), x + d = n → m0.length = 1 →
    exF LP law13_drawn.L0 [(0, .int .i64 (n : Int)), (3, .ptr 0 0 7), (5, GV 1 (ci (List.range x))), (6, v6), (10, .int .i64 (n : Int)), (11, .int .i64 (x : Int))] (m0 ++ GM (ci (List.range x))) =
      some (.exit 0, [(0, .int .i64 (n : Int)), (3, .ptr 0 0 7), (5, GV 1 (ci (List.range n))), (6, v6)], m0 ++ GM (ci (List.range n))) := by
  induction d with
  | zero =>
    intro x m0 v6 hx hm
    obtain rfl : x = n := by omega
    rw [law13_drawn.L0_eq]
    simp only [law13_drawn.B0, beqT, beqF, exF_seq, exF_region, exF_block, exF_cond, exF_ret, exF_exit, exF_skip, runL, wantL, stepL, evL, LEnv.at, putL, loadFine, loadL, cellsAt, Trk.putNew, Trk.up, Trk.touch, Trk.gives, Trk.calm, Trk.hit, opdsOf, Trk.fresh, LEnv.keep, LEnv.ofFrom, List.map_cons, List.map_nil, nbeq, nble, nblt, ofAV, ofAVs, lenL, bin_add, bin_sub, bin_mul, bin_eql, bin_neq, bin_lss, bin_leq, bin_gtr, bin_geq, natL_nat, natL_zero, natL_one, natL_two, Nat.zero_mul, List.any_cons, List.any_nil, Bool.or_false, Bool.false_or, Bool.true_or, Bool.or_true, Bool.and_true, Bool.true_and, Bool.and_false, Bool.false_and, Bool.not_true, Bool.not_false, Nat.reduceBEq, Nat.reduceEqDiff, decide_true, decide_false, cond_true, cond_false, List.filter_nil, List.filter_cons, Nat.reduceAdd, Nat.reduceLeDiff, reduceCtorEq, List.length_nil, List.length_cons, Nat.mul_one, if_true, if_false, Bool.false_eq_true, eq_self, and_true, true_and, retL, resultsL, resAllL, resOfL, List.append_nil, List.nil_append, List.cons_append, true_or, or_true, false_or, or_false, false_and, and_false, not_true_eq_false, not_false_eq_true, ne_eq, unL, trim_nil, views_pures, LV.pures, LV.pure, freeze, Nat.reduceDiv, Int.reduceEq, Int.reduceLT, Int.reduceLE, Int.natCast_zero, LV.cells, allocL, List.getElem?_cons_zero, List.getElem?_cons_succ, storeL, spliceL, List.take_zero, List.take_succ_cons, List.drop_zero, List.drop_succ_cons, List.drop_nil, List.take_nil, Nat.le_refl, Nat.reduceMul, List.set_cons_zero, List.set_cons_succ, LV.scalar, List.all_cons, List.all_nil, Nat.lt_add_one, Nat.zero_lt_one, Nat.reduceLT, Nat.lt_irrefl, fillL, List.length_append, foldIntL, kind_beq, pures_int, solids_int, plains_int, unders_int, scalars_int, Int.lt_irrefl]
  | succ d ih =>
    intro x m0 v6 hx hm
    have ih := ih (x + 1) m0 v6 (by omega) hm
    have ha := append_grow m0 (ci (List.range x)) (x : Int) true (by simp; omega)
    rw [hm] at ha
    have e : ci (List.range (x + 1)) = ci (List.range x) ++ [(x : Int)] := by simp [List.range_succ]
    rw [e] at ih
    rw [law13_drawn.L0_eq]
    simp only [law13_drawn.B0, beqT, beqF, exF_seq, exF_region, exF_block, exF_cond, exF_ret, exF_exit, exF_skip, runL, wantL, stepL, evL, LEnv.at, putL, loadFine, loadL, cellsAt, Trk.putNew, Trk.up, Trk.touch, Trk.gives, Trk.calm, Trk.hit, opdsOf, Trk.fresh, LEnv.keep, LEnv.ofFrom, List.map_cons, List.map_nil, nbeq, nble, nblt, ofAV, ofAVs, lenL, bin_add, bin_sub, bin_mul, bin_eql, bin_neq, bin_lss, bin_leq, bin_gtr, bin_geq, natL_nat, natL_zero, natL_one, natL_two, Nat.zero_mul, List.any_cons, List.any_nil, Bool.or_false, Bool.false_or, Bool.true_or, Bool.or_true, Bool.and_true, Bool.true_and, Bool.and_false, Bool.false_and, Bool.not_true, Bool.not_false, Nat.reduceBEq, Nat.reduceEqDiff, decide_true, decide_false, cond_true, cond_false, List.filter_nil, List.filter_cons, Nat.reduceAdd, Nat.reduceLeDiff, reduceCtorEq, List.length_nil, List.length_cons, Nat.mul_one, if_true, if_false, Bool.false_eq_true, eq_self, and_true, true_and, retL, resultsL, resAllL, resOfL, List.append_nil, List.nil_append, List.cons_append, true_or, or_true, false_or, or_false, false_and, and_false, not_true_eq_false, not_false_eq_true, ne_eq, unL, trim_nil, views_pures, LV.pures, LV.pure, freeze, Nat.reduceDiv, Int.reduceEq, Int.reduceLT, Int.reduceLE, Int.natCast_zero, LV.cells, allocL, List.getElem?_cons_zero, List.getElem?_cons_succ, storeL, spliceL, List.take_zero, List.take_succ_cons, List.drop_zero, List.drop_succ_cons, List.drop_nil, List.take_nil, Nat.le_refl, Nat.reduceMul, List.set_cons_zero, List.set_cons_succ, LV.scalar, List.all_cons, List.all_nil, Nat.lt_add_one, Nat.zero_lt_one, Nat.reduceLT, Nat.lt_irrefl, fillL, List.length_append, foldIntL, kind_beq, pures_int, solids_int, plains_int, unders_int, scalars_int, show ((x : Int) < (n : Int)) by omega, views, viewL, ha, wrap_succ (show x + 1 < 9223372036854775808 by omega), ih]
theorem draw_loop (bs : List Nat) (hb7 : bs.length = 7) (hb : ∀ x ∈ bs, x < 256) (n : Nat) (hn : n ≤ 7) (d : Nat) : ∀ (i : Nat) (left out : List Nat) (Z : List LV), i + d = n → left.length = d → Z.length = i → out.length = i →
    ∃ Z', exF LP law13_drawn.L1 [(3, .ptr 0 0 7), (5, .sl 1 0 d n 1 1 n), (6, GV 2 (ci out)), (19, .int .i64 (n : Int)), (20, .int .i64 (i : Int))] ([⟨bys bs, true⟩, ⟨ints (ci left) ++ Z, true⟩] ++ GM (ci out)) =
      some (.exit 2, [(6, GV 2 (ci (drawF bs d i left out)))], [⟨bys bs, true⟩, ⟨Z', true⟩] ++ GM (ci (drawF bs d i left out))) := by
  induction d with
  | zero =>
    intro i left out Z hi hl hz ho
    obtain rfl : i = n := by omega
    refine ⟨ints (ci left) ++ Z, ?_⟩
    rw [law13_drawn.L1_eq]
    simp only [law13_drawn.B1, beqT, beqF, exF_seq, exF_region, exF_block, exF_cond, exF_ret, exF_exit, exF_skip, runL, wantL, stepL, evL, LEnv.at, putL, loadFine, loadL, cellsAt, Trk.putNew, Trk.up, Trk.touch, Trk.gives, Trk.calm, Trk.hit, opdsOf, Trk.fresh, LEnv.keep, LEnv.ofFrom, List.map_cons, List.map_nil, nbeq, nble, nblt, ofAV, ofAVs, lenL, bin_add, bin_sub, bin_mul, bin_eql, bin_neq, bin_lss, bin_leq, bin_gtr, bin_geq, natL_nat, natL_zero, natL_one, natL_two, Nat.zero_mul, List.any_cons, List.any_nil, Bool.or_false, Bool.false_or, Bool.true_or, Bool.or_true, Bool.and_true, Bool.true_and, Bool.and_false, Bool.false_and, Bool.not_true, Bool.not_false, Nat.reduceBEq, Nat.reduceEqDiff, decide_true, decide_false, cond_true, cond_false, List.filter_nil, List.filter_cons, Nat.reduceAdd, Nat.reduceLeDiff, reduceCtorEq, List.length_nil, List.length_cons, Nat.mul_one, if_true, if_false, Bool.false_eq_true, eq_self, and_true, true_and, retL, resultsL, resAllL, resOfL, List.append_nil, List.nil_append, true_or, or_true, false_or, or_false, false_and, and_false, not_true_eq_false, not_false_eq_true, ne_eq, unL, trim_nil, LV.pures, LV.pure, Nat.reduceDiv, Int.reduceEq, Int.reduceLT, Int.reduceLE, Int.natCast_zero, allocL, List.getElem?_cons_zero, List.getElem?_cons_succ, storeL, spliceL, List.take_zero, List.take_succ_cons, List.drop_zero, List.drop_succ_cons, List.drop_nil, List.take_nil, Nat.le_refl, Nat.reduceMul, List.set_cons_zero, List.set_cons_succ, LV.scalar, List.all_cons, List.all_nil, Nat.lt_add_one, Nat.zero_lt_one, Nat.reduceLT, Nat.lt_irrefl, fillL, foldIntL, kind_beq, pures_int, solids_int, plains_int, unders_int, scalars_int, Int.lt_irrefl, drawF]
  | succ d ih =>
    intro i left out Z hi hl hz ho
    have hib : i < bs.length := by omega
    have hk : nth bs i % left.length < left.length := Nat.mod_lt _ (by omega)
    rw [drawF]
    have hat : (bys bs)[i]? = some (.int .u8 ((nth bs i : Nat) : Int)) := by rw [bys_at bs i hib, nth_at' bs i hib]
    have hbl : (bys bs).length = 7 := by simp [hb7]
    have hw : IntKind.i64.wrap ((nth bs i : Nat) : Int) = ((nth bs i : Nat) : Int) := by
      have : nth bs i < 256 := by rw [nth_at' bs i hib]; exact hb _ (List.getElem_mem hib)
      exact wrap_in (by omega)
    have hrem : binL .rem (.int .i64 ((nth bs i : Nat) : Int)) (.int .i64 ((d + 1 : Nat) : Int)) = some (.int .i64 ((nth bs i % left.length : Nat) : Int)) := by
      rw [bin_rem _ _ _ (show ((d + 1 : Nat) : Int) ≠ 0 by omega), hl]; rfl
    generalize nth bs i % left.length = k at hk hrem ⊢
    generalize nth bs i = bi at hat hw hrem
    have hcell : (ints (ci left) ++ Z)[k]? = some (.int .i64 ((nth left k : Nat) : Int)) := by
      rw [List.getElem?_append_left (by simpa using hk), nth_at' left k hk]
      simp [hk]
    have hll : (ints (ci left) ++ Z).length = n := by simp; omega
    have ha := append_grow [⟨bys bs, true⟩, ⟨ints (ci left) ++ Z, true⟩] (ci out) ((nth left k : Nat) : Int) true (by rw [ci_len]; omega)
    have eo : ci out ++ [((nth left k : Nat) : Int)] = ci (out ++ [nth left k]) := by simp
    rw [eo] at ha
    have esp : left = left.take k ++ left[k] :: left.drop (k + 1) := by rw [← List.drop_eq_getElem_cons hk, List.take_append_drop]
    have el : ci left = ci (left.take k) ++ ((left[k] : Nat) : Int) :: ci (left.drop (k + 1)) := by
      have := congrArg ci esp
      simpa only [ci, List.map_append, List.map_cons] using this
    have la : (ci (left.take k)).length = k := by rw [ci_len, List.length_take]; omega
    have lb : (ci (left.drop (k + 1))).length = d - k := by rw [ci_len, List.length_drop]; omega
    have hd := delete_c ([⟨bys bs, true⟩, ⟨ints (ci left) ++ Z, true⟩] ++ GM (ci (out ++ [nth left k]))) 1 (ci (left.take k)) (ci (left.drop (k + 1))) ((left[k] : Nat) : Int) Z n n (by rw [← el]; rfl) (by omega) (by omega) (by omega)
    rw [la, lb, show k + 1 + (d - k) = d + 1 by omega, show k + (d - k) = d by omega] at hd
    have ee : ints (ci (left.take k) ++ ci (left.drop (k + 1))) = ints (ci (left.eraseIdx k)) := by rw [List.eraseIdx_eq_take_drop_succ]; simp
    rw [ee] at hd
    simp only [List.cons_append, List.nil_append, List.set_cons_succ, List.set_cons_zero] at hd
    obtain ⟨Z', ih⟩ := ih (i + 1) (left.eraseIdx k) (out ++ [nth left k]) (.int .i64 0 :: Z) (by omega) (by rw [List.length_eraseIdx, if_pos hk]; omega) (by simp; omega) (by simp; omega)
    refine ⟨Z', ?_⟩
    simp only [List.cons_append, List.nil_append] at ih ha ⊢
    rw [law13_drawn.L1_eq]
    generalize out ++ [nth left k] = out' at *
    generalize GM (ci out') = gm' at *
    generalize GV 2 (ci out') = gv' at *
    simp only [List.length_cons, List.length_nil, Nat.zero_add, Nat.reduceAdd] at ha
    simp only [law13_drawn.B1, beqT, beqF, exF_seq, exF_region, exF_block, exF_cond, exF_ret, exF_exit, exF_skip, runL, wantL, stepL, evL, LEnv.at, putL, loadFine, loadL, cellsAt, Trk.putNew, Trk.up, Trk.touch, Trk.gives, Trk.calm, Trk.hit, opdsOf, Trk.fresh, LEnv.keep, LEnv.ofFrom, List.map_cons, List.map_nil, nbeq, nble, nblt, ofAV, ofAVs, lenL, bin_add, bin_sub, bin_mul, bin_eql, bin_neq, bin_lss, bin_leq, bin_gtr, bin_geq, natL_nat, natL_zero, natL_one, natL_two, Nat.zero_mul, List.any_cons, List.any_nil, Bool.or_false, Bool.false_or, Bool.true_or, Bool.or_true, Bool.and_true, Bool.true_and, Bool.and_false, Bool.false_and, Bool.not_true, Bool.not_false, Nat.reduceBEq, Nat.reduceEqDiff, decide_true, decide_false, cond_true, cond_false, List.filter_nil, List.filter_cons, Nat.reduceAdd, Nat.reduceLeDiff, reduceCtorEq, List.length_nil, List.length_cons, Nat.mul_one, if_true, if_false, Bool.false_eq_true, eq_self, and_true, true_and, retL, resultsL, resAllL, resOfL, List.append_nil, List.nil_append, List.cons_append, true_or, or_true, false_or, or_false, false_and, and_false, not_true_eq_false, not_false_eq_true, ne_eq, unL, trim_nil, views_pures, LV.pures, LV.pure, freeze, Nat.reduceDiv, Int.reduceEq, Int.reduceLT, Int.reduceLE, Int.natCast_zero, LV.cells, allocL, List.getElem?_cons_zero, List.getElem?_cons_succ, storeL, spliceL, List.take_zero, List.take_succ_cons, List.drop_zero, List.drop_succ_cons, List.drop_nil, List.take_nil, Nat.le_refl, Nat.reduceMul, List.set_cons_zero, List.set_cons_succ, LV.scalar, List.all_cons, List.all_nil, Nat.lt_add_one, Nat.zero_lt_one, Nat.reduceLT, Nat.lt_irrefl, fillL, foldIntL, kind_beq, pures_int, solids_int, plains_int, unders_int, scalars_int, show ((i : Int) < (n : Int)) by omega, show i < 7 by omega, hbl, hat, hw, hrem, show k < d + 1 by omega, hll, hcell, Nat.zero_add, ha, views, viewL, hd, wrap_succ (show k + 1 < 9223372036854775808 by omega), wrap_succ (show i + 1 < 9223372036854775808 by omega), ih]
theorem drawn_c (n : Nat) (h1 : 1 ≤ n) (h7 : n ≤ 7) (bs : List Nat) (hb7 : bs.length = 7) (hb : ∀ x ∈ bs, x < 256) (m : LMem) : clF LP n_law13_drawn [.int .i64 (n : Int), .agg (bys bs)] m = some (.P, IL false false 1 (ci (drawN n bs)), m) := by
  have hl := draw_left bs n h7 n 0 [⟨bys bs, true⟩] (.lst true true 0 0 []) (by omega) rfl
  obtain ⟨Z', hr⟩ := draw_loop bs hb7 hb n h7 n 0 (List.range n) [] [] (by omega) (by simp) rfl rfl
  have hgv : GV 1 (ci (List.range n)) = .sl 1 0 n n 1 1 n := by
    have : ci (List.range n) ≠ [] := by
      intro c; have := congrArg List.length c; simp at this; omega
    simp [GV]; omega
  have hgm : GM (ci (List.range n)) = [⟨ints (ci (List.range n)), true⟩] := by
    have : ci (List.range n) ≠ [] := by
      intro c; have := congrArg List.length c; simp at this; omega
    simp [GM]; omega
  rw [hgv, hgm] at hl
  have e0 : GV 1 (ci (List.range 0)) = .lst true true 0 0 [] := rfl
  have e1 : GM (ci (List.range 0)) = [] := rfl
  rw [e0, e1] at hl
  rw [show GV 2 (ci []) = .lst true true 0 0 [] from rfl, show GM (ci []) = [] from rfl] at hr
  have hdn : drawF bs n 0 (List.range n) [] = drawN n bs := rfl
  rw [hdn] at hr
  obtain ⟨D, hdl⟩ := drawN_td h1 h7 bs
  have hne : ci (drawN n bs) ≠ [] := by
    intro c; have := congrArg List.length c; rw [ci_len, hdl] at this; simp at this; omega
  generalize drawN n bs = t at *
  have hv := view_grow 37 [⟨bys bs, true⟩, ⟨Z', true⟩] (ci t)
  have hRL : RL (ci t) = IL false false 1 (ci t) := by simp only [RL, hne, decide_false, cond_false]
  rw [hRL] at hv
  have hbl : (bys bs).length = 7 := by simp [hb7]
  simp only [List.cons_append, List.nil_append, List.append_nil, Int.natCast_zero, List.length_cons, List.length_nil, Nat.zero_add, Nat.reduceAdd] at hl hr hv
  refine call_Pv lp_law13_drawn rfl (by simp only [LV.pures, LV.pure, pures_int, Bool.and_true]) ?_ hv m
  simp only [law13_drawn, law13_drawn.B, beqT, beqF, exF_seq, exF_region, exF_block, exF_cond, exF_ret, exF_exit, exF_skip, runL, wantL, stepL, evL, LEnv.at, putL, loadFine, loadL, cellsAt, Trk.putNew, Trk.up, Trk.touch, Trk.gives, Trk.calm, Trk.hit, opdsOf, Trk.fresh, LEnv.keep, LEnv.ofFrom, List.map_cons, List.map_nil, nbeq, nble, nblt, ofAV, ofAVs, lenL, bin_add, bin_sub, bin_mul, bin_eql, bin_neq, bin_lss, bin_leq, bin_gtr, bin_geq, natL_nat, natL_zero, natL_one, natL_two, Nat.zero_mul, List.any_cons, List.any_nil, Bool.or_false, Bool.false_or, Bool.true_or, Bool.or_true, Bool.and_true, Bool.true_and, Bool.and_false, Bool.false_and, Bool.not_true, Bool.not_false, Nat.reduceBEq, Nat.reduceEqDiff, decide_true, decide_false, cond_true, cond_false, List.filter_nil, List.filter_cons, Nat.reduceAdd, Nat.reduceLeDiff, reduceCtorEq, List.length_nil, List.length_cons, Nat.mul_one, if_true, if_false, Bool.false_eq_true, eq_self, and_true, true_and, retL, resultsL, resAllL, resOfL, List.append_nil, List.nil_append, List.cons_append, true_or, or_true, false_or, or_false, false_and, and_false, not_true_eq_false, not_false_eq_true, ne_eq, unL, trim_nil, views_pures, LV.pures, LV.pure, freeze, Nat.reduceDiv, Int.reduceEq, Int.reduceLT, Int.reduceLE, Int.natCast_zero, LV.cells, allocL, List.getElem?_cons_zero, List.getElem?_cons_succ, storeL, spliceL, List.take_zero, List.take_succ_cons, List.drop_zero, List.drop_succ_cons, List.drop_nil, List.take_nil, Nat.le_refl, Nat.reduceMul, List.set_cons_zero, List.set_cons_succ, LV.scalar, List.all_cons, List.all_nil, Nat.lt_add_one, Nat.zero_lt_one, Nat.reduceLT, Nat.lt_irrefl, fillL, List.length_append, foldIntL, kind_beq, pures_int, solids_int, plains_int, unders_int, scalars_int, hbl, hl, hr]

theorem made_c (p : Nat) (hp : p < 256) (most : Nat) (h1 : 1 ≤ most) (h7 : most ≤ 7) (bs : List Nat) (hb7 : bs.length = 7) (hb : ∀ x ∈ bs, x < 256) (m : LMem) :
    clF LP n_law13_Swell_made [.agg (bys (p :: bs)), .int .i64 (most : Int)] m = some (.P, IL false false 1 (ci (drawN (1 + p % most) bs)), m) := by
  have hk : p % most < most := Nat.mod_lt _ (by omega)
  have hd := fun m => drawn_c (1 + p % most) (by omega) (by omega) bs hb7 hb m
  have hw : IntKind.i64.wrap ((p : Nat) : Int) = ((p : Nat) : Int) := wrap_in (by omega)
  have hrem : binL .rem (.int .i64 ((p : Nat) : Int)) (.int .i64 (most : Int)) = some (.int .i64 ((p % most : Nat) : Int)) := by
    rw [bin_rem _ _ _ (show (most : Int) ≠ 0 by omega)]; rfl
  have hadd : IntKind.i64.wrap (1 + ((p % most : Nat) : Int)) = ((1 + p % most : Nat) : Int) := by
    rw [wrap_in (by omega)]; simp
  generalize 1 + p % most = n at *
  generalize p % most = q at *
  refine call_P lp_law13_Swell_made rfl (by simp only [LV.pures, LV.pure, pures_int, Bool.and_true]) (m1 := [⟨bys (p :: bs), true⟩]) ?_ (by simp only [LV.pure, pures_int]) m
  have hb0 : (bys (p :: bs))[0]? = some (.int .u8 ((p : Nat) : Int)) := rfl
  have hbl : (bys (p :: bs)).length = 8 := by simp [hb7]
  have htk : ((bys (p :: bs)).drop 1).take 7 = bys bs := by
    show (bys bs).take 7 = _
    rw [List.take_of_length_le (by simp [hb7])]
  generalize bys (p :: bs) = w at *
  simp only [law13_Swell_made, law13_Swell_made.B, beqT, beqF, exF_seq, exF_region, exF_block, exF_cond, exF_ret, exF_exit, exF_skip, runL, wantL, stepL, evL, LEnv.at, putL, loadFine, loadL, cellsAt, Trk.putNew, Trk.up, Trk.touch, Trk.gives, Trk.calm, Trk.hit, opdsOf, Trk.fresh, LEnv.keep, LEnv.ofFrom, List.map_cons, List.map_nil, nbeq, nble, nblt, ofAV, ofAVs, lenL, bin_add, bin_sub, bin_mul, bin_eql, bin_neq, bin_lss, bin_leq, bin_gtr, bin_geq, natL_nat, natL_zero, natL_one, natL_two, Nat.zero_mul, List.any_cons, List.any_nil, Bool.or_false, Bool.false_or, Bool.true_or, Bool.or_true, Bool.and_true, Bool.true_and, Bool.and_false, Bool.false_and, Bool.not_true, Bool.not_false, Nat.reduceBEq, Nat.reduceEqDiff, decide_true, decide_false, cond_true, cond_false, List.filter_nil, List.filter_cons, Nat.reduceAdd, Nat.reduceLeDiff, reduceCtorEq, List.length_nil, List.length_cons, Nat.mul_one, if_true, if_false, Bool.false_eq_true, eq_self, and_true, true_and, retL, resultsL, resAllL, resOfL, List.append_nil, List.nil_append, List.cons_append, true_or, or_true, false_or, or_false, false_and, and_false, not_true_eq_false, not_false_eq_true, ne_eq, unL, trim_nil, views_pures, LV.pures, LV.pure, freeze, Nat.reduceDiv, Int.reduceEq, Int.reduceLT, Int.reduceLE, Int.natCast_zero, LV.cells, allocL, List.getElem?_cons_zero, List.getElem?_cons_succ, storeL, spliceL, List.take_zero, List.take_succ_cons, List.drop_zero, List.drop_succ_cons, List.drop_nil, List.take_nil, Nat.le_refl, Nat.reduceMul, List.set_cons_zero, List.set_cons_succ, LV.scalar, List.all_cons, List.all_nil, Nat.lt_add_one, Nat.zero_lt_one, Nat.reduceLT, Nat.lt_irrefl, fillL, List.length_append, foldIntL, kind_beq, pures_int, solids_int, plains_int, unders_int, scalars_int, hb0, hbl, htk, hw, hrem, hadd, hd]
end Go.Am.Wash


/-
  What functions of chapter 13 compute, outright 2: the law 'WashWhen'.
-/
set_option linter.unusedVariables false
set_option linter.unusedSimpArgs false
set_option maxRecDepth 10000
namespace Go.Am.Wash
open Go.Am.G

theorem ci_ne {l : List Nat} (h : l ≠ []) : ci l ≠ [] := by
  intro c; exact h (List.map_eq_nil_iff.1 c)
theorem chkG_td (N : Nat) : ∀ (t pre : List Nat), (pre ++ t).Nodup → (∀ x ∈ t, x < N) → chkG (N : Int) (ci pre) (ci t) = 0
  | [], pre, _, _ => rfl
  | x :: r, pre, h, hl => by
    have hx := hl x (by simp)
    have h2 : ¬ (x : Int) ∈ ci pre := by
      rw [ci_mem]
      intro c
      have := List.nodup_append.1 h
      exact this.2.2 x c x (by simp) rfl
    have ih := chkG_td N r (pre ++ [x]) (by simpa using h) (fun y hy => hl y (by simp [hy]))
    show chkG (N : Int) (ci pre) ((x : Int) :: ci r) = 0
    rw [chkG, if_neg (fun c => c ⟨by omega, by omega⟩), if_neg h2]
    have e : ci (pre ++ [x]) = ci pre ++ [(x : Int)] := by simp
    rw [e] at ih
    exact ih
theorem Td.chk {t : List Nat} (D : Td t) : chkT (ci t) = 0 := by
  unfold chkT
  rw [ci_len, if_neg (fun c => c ⟨D.h1, D.h7⟩)]
  exact chkG_td t.length t [] (by simpa using D.T.2.1) D.lt
/-- After so many tides all is back. -/
theorem Known.per {t : List Nat} {R : List (List Nat)} {n : Nat} (K : Known t R n) {x : Nat} (hx : x < t.length) : it t n x = x := by
  obtain ⟨l, hl, hxl⟩ := K.cov x hx
  obtain ⟨p, e, hp⟩ := K.ring hl
  obtain ⟨h0, _, hn, _⟩ := K.rows l hl
  obtain ⟨j, hj, ej⟩ := mem_nth hxl
  rw [e, orb_at t p _ j hj] at ej
  have hm : it t l.length x = x := by
    rw [← ej, ← it_add, Nat.add_comm, it_add, hp]
  have e2 : n = (n / l.length) * l.length := by
    have := Nat.div_add_mod n l.length
    rw [hn, Nat.add_zero, Nat.mul_comm] at this
    exact this.symm
  rw [e2]
  exact it_mul t l.length x hm _
theorem aftV_at (t : List Nat) (k x : Nat) (hx : x < t.length) : nth (aftV t k) x = it t k x := by
  rw [nth_at' _ _ (by simpa [aftV] using hx)]
  simp [aftV]
theorem aftV_ln (t : List Nat) (k : Nat) : (aftV t k).length = t.length := by simp [aftV]
theorem aftV_mod {t : List Nat} {R : List (List Nat)} {n : Nat} (K : Known t R n) (k : Nat) : aftV t ((k : Int) % (n : Int)).toNat = aftV t k := by
  have e : ((k : Int) % (n : Int)).toNat = k % n := by
    have : ((k : Int) % (n : Int)) = ((k % n : Nat) : Int) := by simp
    rw [this, Int.toNat_natCast]
  rw [e]
  apply list_nth_ext (by simp [aftV])
  intro x hx
  rw [aftV_ln] at hx
  rw [aftV_at _ _ _ hx, aftV_at _ _ _ hx, it_mod t n x (K.per hx)]
theorem bytes_nat : ∀ (ns : List Int), (∀ n ∈ ns, 0 ≤ n ∧ n < 256) → ∃ bs : List Nat, ns = ci bs ∧ ∀ b ∈ bs, b < 256
  | [], _ => ⟨[], rfl, by simp⟩
  | n :: r, h => by
    obtain ⟨bs, e, hb⟩ := bytes_nat r fun x hx => h x (by simp [hx])
    obtain ⟨h0, h1⟩ := h n (by simp)
    obtain ⟨k, rfl⟩ := Int.eq_ofNat_of_zero_le h0
    refine ⟨k :: bs, by rw [e]; rfl, ?_⟩
    intro b hb'
    rcases List.mem_cons.1 hb' with rfl | hb'
    · omega
    · exact hb b hb'
/-- A swell's bytes. -/
theorem swell_nat {ns : List Int} (hl : ns.length = 8) (hb : ∀ n ∈ ns, 0 ≤ n ∧ n < 256) : ∃ (p : Nat) (bs : List Nat), ns.map (LV.int .u8) = bys (p :: bs) ∧ p < 256 ∧ bs.length = 7 ∧ ∀ b ∈ bs, b < 256 := by
  obtain ⟨l, rfl, h⟩ := bytes_nat ns hb
  rw [ci_len] at hl
  match l, hl, h with
  | p :: bs, hl, h => exact ⟨p, bs, rfl, h p (by simp), by simpa using hl, fun b hb => h b (by simp [hb])⟩

end Go.Am.Wash


