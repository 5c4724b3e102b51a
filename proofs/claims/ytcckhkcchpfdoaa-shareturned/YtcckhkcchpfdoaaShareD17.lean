import Derived.Test.YtcckhkcchpfdoaaShareD16
import Derived.Test.YtcckhkcchpfdoaaShareC12
/-
  What functions of chapter 07 compute, outright 17: the law 'ShareMost': one division.
-/
set_option linter.unusedVariables false
set_option linter.unusedSimpArgs false
set_option maxRecDepth 10000
set_option maxHeartbeats 400000
namespace Go.Am.Share
open Go.Am.G

end Go.Am.Share

/-
  What functions of chapter 07 compute, outright 18: the law 'ShareMost', joined.
-/
set_option linter.unusedVariables false
set_option linter.unusedSimpArgs false
set_option maxRecDepth 10000
set_option maxHeartbeats 400000
namespace Go.Am.Share
open Go.Am.G

end Go.Am.Share

/-
  What functions of chapter 07 compute, outright 25: the law 'ShareTurned': an order by numbers.
-/
set_option linter.unusedVariables false
set_option linter.unusedSimpArgs false
set_option maxRecDepth 10000
set_option maxHeartbeats 400000
namespace Go.Am.Share
open Go.Am.G

/-! ### A thing is taken out of a list -/
theorem app_del (m : LMem) (i : Nat) (a b : List Int) (x : Int) (Z : List LV) (c c' : Nat) (L : Nat) (h : m[i]? = some ⟨ints (a ++ x :: b) ++ Z, true⟩) (hL : a.length + 1 + b.length + Z.length = L) (hc : a.length + b.length ≤ c) (hs : L < 1000000) :
    ∃ C, appendL m 1 8 (.sl i 0 a.length c 1 1 L) (.sl i (a.length + 1) b.length c' 1 1 L) = some (.sl i 0 (a.length + b.length) c 1 1 L, m.set i ⟨C, true⟩) ∧ C.length = L ∧ C.take (a.length + b.length) = ints (a ++ b) ∧ C.drop (a.length + b.length + 1) = Z := by
  have hlen : (ints (a ++ x :: b) ++ Z).length = L := by simp; omega
  have c1 : contents m 1 (.sl i 0 a.length c 1 1 L) = some (ints a, a.length) := by
    simp only [contents, h]
    simp only [nbeq, nble, hlen, Nat.mul_one, Nat.zero_add, show a.length ≤ L by omega, decide_true, Bool.and_self, cond_true, List.drop_zero]
    congr 2
    rw [List.take_append_of_le_length (by simp), ← List.map_take]
    simp
  have c2 : contents m 1 (.sl i (a.length + 1) b.length c' 1 1 L) = some (ints b, b.length) := by
    simp only [contents, h]
    simp only [nbeq, nble, hlen, Nat.mul_one, show a.length + 1 + b.length ≤ L by omega, decide_true, Bool.and_self, cond_true]
    congr 2
    rw [List.drop_append_of_le_length (by simp), ← List.map_drop]
    have : (a ++ x :: b).drop (a.length + 1) = b := by
      rw [← List.drop_drop, List.drop_left]; rfl
    rw [this, List.take_append_of_le_length (by simp), List.take_of_length_le (by simp)]
  by_cases hb : b.length = 0
  · have hb' : b = [] := List.length_eq_zero_iff.1 hb
    subst hb'
    have hdz : (ints (a ++ [x]) ++ Z).drop (ints (a ++ [x])).length = Z := List.drop_left
    refine ⟨ints (a ++ [x]) ++ Z, ?_, by simpa using hlen, by simp, by simpa using hdz⟩
    have hm : m.set i ⟨ints (a ++ [x]) ++ Z, true⟩ = m := by
      apply List.ext_getElem?
      intro j
      rw [List.getElem?_set]
      by_cases hj : i = j
      · subst hj
        have hi := (List.getElem?_eq_some_iff.1 h).1
        simp only [if_true, hi]
        exact h.symm
      · simp [hj]
    rw [hm]
    unfold appendL
    simp only [c1, c2]
    have hc2 : a.length ≤ c := by simpa using hc
    simp [nbeq, nble, hc2]
  · have hroom : (Nat.ble ((a.length + b.length) * 8) roomMost && Nat.ble (a.length + b.length) roomMost && (ints b).all LV.scalar) = true := by
      rw [scalars_int]
      simp only [roomMost, nble, Bool.and_true, Bool.and_eq_true, decide_eq_true_eq]
      omega
    have hsp : spliceL (ints (a ++ x :: b) ++ Z) (0 + a.length * 1) (ints b) = ints a ++ ints b ++ (ints (a ++ x :: b) ++ Z).drop (a.length + b.length) := by
      unfold spliceL
      rw [Nat.mul_one, Nat.zero_add]
      congr 1
      · rw [List.take_append_of_le_length (by simp), ← List.map_take]; simp
      · congr 1; simp
    refine ⟨ints a ++ ints b ++ (ints (a ++ x :: b) ++ Z).drop (a.length + b.length), ?_, ?_, ?_, ?_⟩
    · unfold appendL
      simp only [c1, c2, hroom, h]
      simp only [nbeq, hb, decide_false, cond_false, cond_true, nble, hc, decide_true]
      rw [hsp]
      simp [show a.length + b.length ≤ L by omega]
    · simp only [List.length_append, List.length_drop, List.length_map, List.length_cons]; omega
    · rw [List.take_append_of_le_length (by simp), List.take_of_length_le (by simp)]
      simp
    · rw [List.drop_append, List.drop_eq_nil_of_le (by simp), List.nil_append, List.drop_drop]
      simp only [List.length_append, List.length_map]
      rw [show a.length + b.length + (a.length + b.length + 1 - (a.length + b.length)) = (ints (a ++ x :: b)).length + 0 by simp; omega, List.drop_append]
      simp
theorem delete_c (m : LMem) (i : Nat) (a b : List Int) (x : Int) (Z : List LV) (c : Nat) (L : Nat) (h : m[i]? = some ⟨ints (a ++ x :: b) ++ Z, true⟩) (hL : a.length + 1 + b.length + Z.length = L) (hc : a.length + 1 + b.length ≤ c) (hs : L < 1000000) :
    clF LP n_slices_Delete_int_int [.sl i 0 (a.length + 1 + b.length) c 1 1 L, .int .i64 ((a.length : Nat) : Int), .int .i64 ((a.length + 1 : Nat) : Int)] m = some (.W, .sl i 0 (a.length + b.length) c 1 1 L, m.set i ⟨ints (a ++ b) ++ .int .i64 0 :: Z, true⟩) := by
  obtain ⟨C, h1, h2, h3, h4⟩ := app_del m i a b x Z c (c - (a.length + 1)) L h hL (by omega) hs
  have hi := (List.getElem?_eq_some_iff.1 h).1
  have hb1 : a.length + 1 + b.length - (a.length + 1) = b.length := by omega
  have hcl : clrL (m.set i ⟨C, true⟩) (.int .i64 0) (.sl i (a.length + b.length) 1 (c - (a.length + b.length)) 1 1 L) = some (m.set i ⟨ints (a ++ b) ++ .int .i64 0 :: Z, true⟩) := by
    simp only [clrL, List.getElem?_set, if_true, hi, List.set_set]
    simp only [nbeq, nble, h2, show a.length + b.length + 1 ≤ L by omega, decide_true, AV.scalar, Bool.and_self, cond_true, spliceL, h3]
    simp only [List.replicate, List.length_cons, List.length_nil, h4, ofAV]
    simp
  have ht : trim m.length [.sl i 0 (a.length + b.length) c 1 1 L] (m.set i ⟨ints (a ++ b) ++ .int .i64 0 :: Z, true⟩) = m.set i ⟨ints (a ++ b) ++ .int .i64 0 :: Z, true⟩ := trim_le _ _ _ (by simp)
  conv => rhs; rw [← ht]
  refine call_W lp_slices_Delete_int_int rfl ?_
  have e1 : ¬ (a.length : Int) = ((a.length + 1 : Nat) : Int) := by omega
  simp only [slices_Delete_int_int, slices_Delete_int_int.B, beqT, beqF, exF_seq, exF_region, exF_block, exF_cond, exF_ret, exF_exit, exF_skip, runL, wantL, stepL, evL, evC, LEnv.at, putL, loadFine, loadL, cellsAt, Trk.putNew, Trk.up, Trk.touch, Trk.gives, Trk.calm, Trk.hit, opdsOf, Trk.fresh, LEnv.keep, LEnv.ofFrom, List.map_cons, List.map_nil, nbeq, nble, nblt, ofAV, ofAVs, lenL, bin_add, bin_sub, bin_mul, bin_eql, bin_neq, bin_lss, bin_leq, bin_gtr, bin_geq, natL_nat, natL_zero, natL_one, natL_two, Nat.zero_mul, List.any_cons, List.any_nil, Bool.or_false, Bool.false_or, Bool.true_or, Bool.or_true, Bool.and_true, Bool.true_and, Bool.and_false, Bool.false_and, Bool.not_true, Bool.not_false, Nat.reduceBEq, Nat.reduceEqDiff, decide_true, decide_false, cond_true, cond_false, List.filter_nil, List.filter_cons, Nat.reduceAdd, Nat.reduceLeDiff, reduceCtorEq, List.length_nil, List.length_cons, Nat.mul_one, if_true, if_false, Bool.false_eq_true, eq_self, and_true, true_and, retL, resultsL, resAllL, resOfL, List.append_nil, List.nil_append, List.cons_append, true_or, or_true, false_or, or_false, false_and, and_false, not_true_eq_false, not_false_eq_true, ne_eq, unL, trim_nil, views_pures, LV.pures, LV.pure, freeze, Nat.reduceDiv, Int.reduceEq, Int.reduceLT, Int.reduceLE, Int.natCast_zero, LV.cells, allocL, List.getElem?_cons_zero, List.getElem?_cons_succ, storeL, spliceL, List.take_zero, List.take_succ_cons, List.drop_zero, List.drop_succ_cons, List.drop_nil, List.take_nil, Nat.le_refl, Nat.reduceMul, List.set_cons_zero, List.set_cons_succ, LV.scalar, List.all_cons, List.all_nil, Nat.lt_add_one, Nat.zero_lt_one, Nat.reduceLT, Nat.lt_irrefl, fillL, List.length_append, foldIntL, kind_beq, pures_int, solids_int, plains_int, unders_int, scalars_int, sliceL, optNatL, Option.map_some, Option.map_none, Option.isSome_some, Option.isSome_none, Bool.or_true, show a.length + 1 + b.length ≤ c by omega, show a.length + 1 ≤ a.length + 1 + b.length by omega, show a.length ≤ a.length + 1 by omega, e1, show a.length ≤ a.length + 1 + b.length by omega, hb1, show a.length ≤ c by omega, Nat.zero_le, Nat.zero_add, Nat.sub_zero, h1]
  simp only [beqT, beqF, exF_seq, exF_region, exF_block, exF_cond, exF_ret, exF_exit, exF_skip, runL, wantL, stepL, evL, evC, LEnv.at, putL, loadFine, loadL, cellsAt, Trk.putNew, Trk.up, Trk.touch, Trk.gives, Trk.calm, Trk.hit, opdsOf, Trk.fresh, LEnv.keep, LEnv.ofFrom, List.map_cons, List.map_nil, nbeq, nble, nblt, ofAV, ofAVs, lenL, bin_add, bin_sub, bin_mul, bin_eql, bin_neq, bin_lss, bin_leq, bin_gtr, bin_geq, natL_nat, natL_zero, natL_one, natL_two, Nat.zero_mul, List.any_cons, List.any_nil, Bool.or_false, Bool.false_or, Bool.true_or, Bool.or_true, Bool.and_true, Bool.true_and, Bool.and_false, Bool.false_and, Bool.not_true, Bool.not_false, Nat.reduceBEq, Nat.reduceEqDiff, decide_true, decide_false, cond_true, cond_false, List.filter_nil, List.filter_cons, Nat.reduceAdd, Nat.reduceLeDiff, reduceCtorEq, List.length_nil, List.length_cons, Nat.mul_one, if_true, if_false, Bool.false_eq_true, eq_self, and_true, true_and, retL, resultsL, resAllL, resOfL, List.append_nil, List.nil_append, List.cons_append, true_or, or_true, false_or, or_false, false_and, and_false, not_true_eq_false, not_false_eq_true, ne_eq, unL, trim_nil, views_pures, LV.pures, LV.pure, freeze, Nat.reduceDiv, Int.reduceEq, Int.reduceLT, Int.reduceLE, Int.natCast_zero, LV.cells, allocL, List.getElem?_cons_zero, List.getElem?_cons_succ, storeL, spliceL, List.take_zero, List.take_succ_cons, List.drop_zero, List.drop_succ_cons, List.drop_nil, List.take_nil, Nat.le_refl, Nat.reduceMul, List.set_cons_zero, List.set_cons_succ, LV.scalar, List.all_cons, List.all_nil, Nat.lt_add_one, Nat.zero_lt_one, Nat.reduceLT, Nat.lt_irrefl, fillL, List.length_append, foldIntL, kind_beq, pures_int, solids_int, plains_int, unders_int, scalars_int, sliceL, optNatL, Option.map_some, Option.map_none, Option.isSome_none, natL_nat, Nat.zero_add, show a.length + 1 + b.length ≤ c by omega, show a.length + b.length ≤ a.length + 1 + b.length by omega, show a.length + 1 + b.length - (a.length + b.length) = 1 by omega, hcl]

/-! ### An order by numbers -/
def drawF (bs : List Nat) : Nat → Nat → List Nat → List Nat → List Nat
  | 0, _, _, out => out
  | d + 1, i, left, out => drawF bs d (i + 1) (left.eraseIdx (bs.getD i 0 % left.length)) (out ++ [left.getD (bs.getD i 0 % left.length) 0])
def drawN (n : Nat) (bs : List Nat) : List Nat := drawF bs n 0 (List.range n) []
theorem getD_at (l : List Nat) (k : Nat) (h : k < l.length) : l.getD k 0 = l[k] := by simp [List.getD_eq_getElem?_getD, h]
theorem ers_perm : ∀ (l : List Nat) (k : Nat) (h : k < l.length), (l[k] :: l.eraseIdx k).Perm l
  | a :: r, 0, _ => by simp
  | a :: r, k + 1, h => by
    have := ers_perm r k (by simpa using h)
    simp only [List.getElem_cons_succ, List.eraseIdx_cons_succ]
    exact (List.Perm.swap _ _ _).trans (this.cons a)
theorem drawF_perm (bs : List Nat) (n : Nat) (d : Nat) : ∀ (i : Nat) (left out : List Nat), left.length = d → (out ++ left).Perm (List.range n) → (drawF bs d i left out).Perm (List.range n) := by
  induction d with
  | zero => intro i left out h hp; rw [List.length_eq_zero_iff.1 h, List.append_nil] at hp; exact hp
  | succ d ih =>
    intro i left out h hp
    rw [drawF]
    have hk : bs.getD i 0 % left.length < left.length := Nat.mod_lt _ (by omega)
    generalize bs.getD i 0 % left.length = k at hk
    refine ih _ _ _ (by rw [List.length_eraseIdx, if_pos hk]; omega) (List.Perm.trans ?_ hp)
    rw [List.append_assoc]
    refine List.Perm.append_left _ ?_
    rw [getD_at _ _ hk]
    exact ers_perm left k hk
theorem drawN_perm (n : Nat) (bs : List Nat) : (drawN n bs).Perm (List.range n) := drawF_perm bs n n 0 _ _ (by simp) (by simp)
theorem tdraw_left (VV : LV) (n : Nat) (hn : n ≤ 4) (d : Nat) : ∀ (x : Nat) (m0 : LMem) (v7 : LV), x + d = n → m0.length = 2 →
    exF LP law07_ShareTurned.L0 [(3, .ptr 1 0 4), (5, VV), (6, GV 2 (ci (List.range x))), (7, v7), (27, .int .i64 (n : Int)), (28, .int .i64 (x : Int))] (m0 ++ GM (ci (List.range x))) =
      some (.exit 0, [(3, .ptr 1 0 4), (5, VV), (6, GV 2 (ci (List.range n))), (7, v7)], m0 ++ GM (ci (List.range n))) := by
  induction d with
  | zero =>
    intro x m0 v7 hx hm
    obtain rfl : x = n := by omega
    rw [law07_ShareTurned.L0_eq]
    simp only [law07_ShareTurned.B0, beqT, beqF, exF_seq, exF_region, exF_block, exF_cond, exF_ret, exF_exit, exF_skip, runL, wantL, stepL, evL, evC, LEnv.at, putL, loadFine, loadL, cellsAt, Trk.putNew, Trk.up, Trk.touch, Trk.gives, Trk.calm, Trk.hit, opdsOf, Trk.fresh, LEnv.keep, LEnv.ofFrom, List.map_cons, List.map_nil, nbeq, nble, nblt, ofAV, ofAVs, lenL, bin_add, bin_sub, bin_mul, bin_eql, bin_neq, bin_lss, bin_leq, bin_gtr, bin_geq, natL_nat, natL_zero, natL_one, natL_two, Nat.zero_mul, List.any_cons, List.any_nil, Bool.or_false, Bool.false_or, Bool.true_or, Bool.or_true, Bool.and_true, Bool.true_and, Bool.and_false, Bool.false_and, Bool.not_true, Bool.not_false, Nat.reduceBEq, Nat.reduceEqDiff, decide_true, decide_false, cond_true, cond_false, List.filter_nil, List.filter_cons, Nat.reduceAdd, Nat.reduceLeDiff, reduceCtorEq, List.length_nil, List.length_cons, Nat.mul_one, if_true, if_false, Bool.false_eq_true, eq_self, and_true, true_and, retL, resultsL, resAllL, resOfL, List.append_nil, List.nil_append, List.cons_append, true_or, or_true, false_or, or_false, false_and, and_false, not_true_eq_false, not_false_eq_true, ne_eq, unL, trim_nil, views_pures, LV.pures, LV.pure, freeze, Nat.reduceDiv, Int.reduceEq, Int.reduceLT, Int.reduceLE, Int.natCast_zero, LV.cells, allocL, List.getElem?_cons_zero, List.getElem?_cons_succ, storeL, spliceL, List.take_zero, List.take_succ_cons, List.drop_zero, List.drop_succ_cons, List.drop_nil, List.take_nil, Nat.le_refl, Nat.reduceMul, List.set_cons_zero, List.set_cons_succ, LV.scalar, List.all_cons, List.all_nil, Nat.lt_add_one, Nat.zero_lt_one, Nat.reduceLT, Nat.lt_irrefl, fillL, List.length_append, foldIntL, kind_beq, pures_int, solids_int, plains_int, unders_int, scalars_int, Int.lt_irrefl]
  | succ d ih =>
    intro x m0 v7 hx hm
    have ih := ih (x + 1) m0 v7 (by omega) hm
    have ha := append_grow m0 (ci (List.range x)) (x : Int) true (by simp; omega)
    rw [hm] at ha
    have e : ci (List.range (x + 1)) = ci (List.range x) ++ [(x : Int)] := by simp [List.range_succ]
    rw [e] at ih
    rw [law07_ShareTurned.L0_eq]
    simp only [law07_ShareTurned.B0, beqT, beqF, exF_seq, exF_region, exF_block, exF_cond, exF_ret, exF_exit, exF_skip, runL, wantL, stepL, evL, evC, LEnv.at, putL, loadFine, loadL, cellsAt, Trk.putNew, Trk.up, Trk.touch, Trk.gives, Trk.calm, Trk.hit, opdsOf, Trk.fresh, LEnv.keep, LEnv.ofFrom, List.map_cons, List.map_nil, nbeq, nble, nblt, ofAV, ofAVs, lenL, bin_add, bin_sub, bin_mul, bin_eql, bin_neq, bin_lss, bin_leq, bin_gtr, bin_geq, natL_nat, natL_zero, natL_one, natL_two, Nat.zero_mul, List.any_cons, List.any_nil, Bool.or_false, Bool.false_or, Bool.true_or, Bool.or_true, Bool.and_true, Bool.true_and, Bool.and_false, Bool.false_and, Bool.not_true, Bool.not_false, Nat.reduceBEq, Nat.reduceEqDiff, decide_true, decide_false, cond_true, cond_false, List.filter_nil, List.filter_cons, Nat.reduceAdd, Nat.reduceLeDiff, reduceCtorEq, List.length_nil, List.length_cons, Nat.mul_one, if_true, if_false, Bool.false_eq_true, eq_self, and_true, true_and, retL, resultsL, resAllL, resOfL, List.append_nil, List.nil_append, List.cons_append, true_or, or_true, false_or, or_false, false_and, and_false, not_true_eq_false, not_false_eq_true, ne_eq, unL, trim_nil, views_pures, LV.pures, LV.pure, freeze, Nat.reduceDiv, Int.reduceEq, Int.reduceLT, Int.reduceLE, Int.natCast_zero, LV.cells, allocL, List.getElem?_cons_zero, List.getElem?_cons_succ, storeL, spliceL, List.take_zero, List.take_succ_cons, List.drop_zero, List.drop_succ_cons, List.drop_nil, List.take_nil, Nat.le_refl, Nat.reduceMul, List.set_cons_zero, List.set_cons_succ, LV.scalar, List.all_cons, List.all_nil, Nat.lt_add_one, Nat.zero_lt_one, Nat.reduceLT, Nat.lt_irrefl, fillL, List.length_append, foldIntL, kind_beq, pures_int, solids_int, plains_int, unders_int, scalars_int, show ((x : Int) < (n : Int)) by omega, views, viewL, ha, wrap_succ (show x + 1 < 9223372036854775808 by omega), ih]
theorem tdraw_loop (w0 : LBlk) (VV : LV) (bs : List Nat) (hb7 : bs.length = 4) (hb : ∀ x ∈ bs, x < 256) (n : Nat) (hn : n ≤ 4) (d : Nat) : ∀ (i : Nat) (left out : List Nat) (Z : List LV), i + d = n → left.length = d → Z.length = i → out.length = i →
    ∃ Z', exF LP law07_ShareTurned.L1 [(3, .ptr 1 0 4), (5, VV), (6, .sl 2 0 d n 1 1 n), (7, GV 3 (ci out)), (37, .int .i64 (n : Int)), (38, .int .i64 (i : Int))] ([w0, ⟨bys bs, true⟩, ⟨ints (ci left) ++ Z, true⟩] ++ GM (ci out)) =
      some (.exit 2, [(5, VV), (7, GV 3 (ci (drawF bs d i left out)))], [w0, ⟨bys bs, true⟩, ⟨Z', true⟩] ++ GM (ci (drawF bs d i left out))) := by
  induction d with
  | zero =>
    intro i left out Z hi hl hz ho
    obtain rfl : i = n := by omega
    refine ⟨ints (ci left) ++ Z, ?_⟩
    rw [law07_ShareTurned.L1_eq]
    simp only [law07_ShareTurned.B1, beqT, beqF, exF_seq, exF_region, exF_block, exF_cond, exF_ret, exF_exit, exF_skip, runL, wantL, stepL, evL, evC, LEnv.at, putL, loadFine, loadL, cellsAt, Trk.putNew, Trk.up, Trk.touch, Trk.gives, Trk.calm, Trk.hit, opdsOf, Trk.fresh, LEnv.keep, LEnv.ofFrom, List.map_cons, List.map_nil, nbeq, nble, nblt, ofAV, ofAVs, lenL, bin_add, bin_sub, bin_mul, bin_eql, bin_neq, bin_lss, bin_leq, bin_gtr, bin_geq, natL_nat, natL_zero, natL_one, natL_two, Nat.zero_mul, List.any_cons, List.any_nil, Bool.or_false, Bool.false_or, Bool.true_or, Bool.or_true, Bool.and_true, Bool.true_and, Bool.and_false, Bool.false_and, Bool.not_true, Bool.not_false, Nat.reduceBEq, Nat.reduceEqDiff, decide_true, decide_false, cond_true, cond_false, List.filter_nil, List.filter_cons, Nat.reduceAdd, Nat.reduceLeDiff, reduceCtorEq, List.length_nil, List.length_cons, Nat.mul_one, if_true, if_false, Bool.false_eq_true, eq_self, and_true, true_and, retL, resultsL, resAllL, resOfL, List.append_nil, List.nil_append, true_or, or_true, false_or, or_false, false_and, and_false, not_true_eq_false, not_false_eq_true, ne_eq, unL, trim_nil, LV.pures, LV.pure, Nat.reduceDiv, Int.reduceEq, Int.reduceLT, Int.reduceLE, Int.natCast_zero, allocL, List.getElem?_cons_zero, List.getElem?_cons_succ, storeL, spliceL, List.take_zero, List.take_succ_cons, List.drop_zero, List.drop_succ_cons, List.drop_nil, List.take_nil, Nat.le_refl, Nat.reduceMul, List.set_cons_zero, List.set_cons_succ, LV.scalar, List.all_cons, List.all_nil, Nat.lt_add_one, Nat.zero_lt_one, Nat.reduceLT, Nat.lt_irrefl, fillL, foldIntL, kind_beq, pures_int, solids_int, plains_int, unders_int, scalars_int, Int.lt_irrefl, drawF]
  | succ d ih =>
    intro i left out Z hi hl hz ho
    have hib : i < bs.length := by omega
    have hk : bs.getD i 0 % left.length < left.length := Nat.mod_lt _ (by omega)
    rw [drawF]
    have hat : (bys bs)[i]? = some (.int .u8 ((bs.getD i 0 : Nat) : Int)) := bys_at hib
    have hbl : (bys bs).length = 4 := by simp [hb7]
    have hw : IntKind.i64.wrap ((bs.getD i 0 : Nat) : Int) = ((bs.getD i 0 : Nat) : Int) := by
      have := getD_lt hb i
      exact wrap_in (by omega)
    have hrem : binL .rem (.int .i64 ((bs.getD i 0 : Nat) : Int)) (.int .i64 ((d + 1 : Nat) : Int)) = some (.int .i64 ((bs.getD i 0 % left.length : Nat) : Int)) := by
      rw [bin_rem _ _ _ (show ((d + 1 : Nat) : Int) ≠ 0 by omega), hl]; rfl
    generalize bs.getD i 0 % left.length = k at hk hrem ⊢
    generalize bs.getD i 0 = bi at hat hw hrem
    have hcell : (ints (ci left) ++ Z)[k]? = some (.int .i64 ((left.getD k 0 : Nat) : Int)) := by
      rw [List.getElem?_append_left (by simpa using hk), getD_at left k hk]
      simp [hk]
    have hll : (ints (ci left) ++ Z).length = n := by simp; omega
    have ha := append_grow [w0, ⟨bys bs, true⟩, ⟨ints (ci left) ++ Z, true⟩] (ci out) ((left.getD k 0 : Nat) : Int) true (by rw [ci_ln]; omega)
    have eo : ci out ++ [((left.getD k 0 : Nat) : Int)] = ci (out ++ [left.getD k 0]) := by simp
    rw [eo] at ha
    have esp : left = left.take k ++ left[k] :: left.drop (k + 1) := by rw [← List.drop_eq_getElem_cons hk, List.take_append_drop]
    have el : ci left = ci (left.take k) ++ ((left[k] : Nat) : Int) :: ci (left.drop (k + 1)) := by
      have := congrArg ci esp
      simpa only [ci, List.map_append, List.map_cons] using this
    have la : (ci (left.take k)).length = k := by rw [ci_ln, List.length_take]; omega
    have lb : (ci (left.drop (k + 1))).length = d - k := by rw [ci_ln, List.length_drop]; omega
    have hd := delete_c ([w0, ⟨bys bs, true⟩, ⟨ints (ci left) ++ Z, true⟩] ++ GM (ci (out ++ [left.getD k 0]))) 2 (ci (left.take k)) (ci (left.drop (k + 1))) ((left[k] : Nat) : Int) Z n n (by rw [← el]; rfl) (by omega) (by omega) (by omega)
    rw [la, lb, show k + 1 + (d - k) = d + 1 by omega, show k + (d - k) = d by omega] at hd
    have ee : ints (ci (left.take k) ++ ci (left.drop (k + 1))) = ints (ci (left.eraseIdx k)) := by rw [List.eraseIdx_eq_take_drop_succ]; simp
    rw [ee] at hd
    simp only [List.cons_append, List.nil_append, List.set_cons_succ, List.set_cons_zero] at hd
    obtain ⟨Z', ih⟩ := ih (i + 1) (left.eraseIdx k) (out ++ [left.getD k 0]) (.int .i64 0 :: Z) (by omega) (by rw [List.length_eraseIdx, if_pos hk]; omega) (by simp; omega) (by simp; omega)
    refine ⟨Z', ?_⟩
    simp only [List.cons_append, List.nil_append] at ih ha ⊢
    rw [law07_ShareTurned.L1_eq]
    generalize out ++ [left.getD k 0] = out' at *
    generalize GM (ci out') = gm' at *
    generalize GV 3 (ci out') = gv' at *
    simp only [List.length_cons, List.length_nil, Nat.zero_add, Nat.reduceAdd] at ha
    simp only [law07_ShareTurned.B1, law07_ShareTurned.B1.R0, law07_ShareTurned.B1.R1, beqT, beqF, exF_seq, exF_region, exF_block, exF_cond, exF_ret, exF_exit, exF_skip, runL, wantL, stepL, evL, evC, LEnv.at, putL, loadFine, loadL, cellsAt, Trk.putNew, Trk.up, Trk.touch, Trk.gives, Trk.calm, Trk.hit, opdsOf, Trk.fresh, LEnv.keep, LEnv.ofFrom, List.map_cons, List.map_nil, nbeq, nble, nblt, ofAV, ofAVs, lenL, bin_add, bin_sub, bin_mul, bin_eql, bin_neq, bin_lss, bin_leq, bin_gtr, bin_geq, natL_nat, natL_zero, natL_one, natL_two, Nat.zero_mul, List.any_cons, List.any_nil, Bool.or_false, Bool.false_or, Bool.true_or, Bool.or_true, Bool.and_true, Bool.true_and, Bool.and_false, Bool.false_and, Bool.not_true, Bool.not_false, Nat.reduceBEq, Nat.reduceEqDiff, decide_true, decide_false, cond_true, cond_false, List.filter_nil, List.filter_cons, Nat.reduceAdd, Nat.reduceLeDiff, reduceCtorEq, List.length_nil, List.length_cons, Nat.mul_one, if_true, if_false, Bool.false_eq_true, eq_self, and_true, true_and, retL, resultsL, resAllL, resOfL, List.append_nil, List.nil_append, List.cons_append, true_or, or_true, false_or, or_false, false_and, and_false, not_true_eq_false, not_false_eq_true, ne_eq, unL, trim_nil, views_pures, LV.pures, LV.pure, freeze, Nat.reduceDiv, Int.reduceEq, Int.reduceLT, Int.reduceLE, Int.natCast_zero, LV.cells, allocL, List.getElem?_cons_zero, List.getElem?_cons_succ, storeL, spliceL, List.take_zero, List.take_succ_cons, List.drop_zero, List.drop_succ_cons, List.drop_nil, List.take_nil, Nat.le_refl, Nat.reduceMul, List.set_cons_zero, List.set_cons_succ, LV.scalar, List.all_cons, List.all_nil, Nat.lt_add_one, Nat.zero_lt_one, Nat.reduceLT, Nat.lt_irrefl, fillL, foldIntL, kind_beq, pures_int, solids_int, plains_int, unders_int, scalars_int, show ((i : Int) < (n : Int)) by omega, show i < 4 by omega, hbl, hat, hw, hrem, show k < d + 1 by omega, hll, hcell, Nat.zero_add, ha, views, viewL, hd, wrap_succ (show k + 1 < 9223372036854775808 by omega), wrap_succ (show i + 1 < 9223372036854775808 by omega), ih]
end Go.Am.Share


