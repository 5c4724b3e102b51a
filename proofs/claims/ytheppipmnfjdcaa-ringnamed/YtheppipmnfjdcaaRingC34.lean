import Derived.Test.YtheppipmnfjdcaaRingC32
import Derived.Test.YtheppipmnfjdcaaRingP7
import Derived.Test.YtheppipmnfjdcaaLaw1
import Derived.Test.YtheppipmnfjdcaaRingD6
import Derived.Carry
/-
  What functions of chapter 04 compute, 34: the law RingAparts.
-/
set_option linter.unusedVariables false
set_option linter.unusedSimpArgs false
set_option maxRecDepth 10000
namespace Go.Am.Ring
open Go.Am.G

end Go.Am.Ring

/-
  What functions of chapter 04 compute, 21: the law RingStrikes.
-/
set_option linter.unusedVariables false
set_option linter.unusedSimpArgs false
set_option maxRecDepth 10000
namespace Go.Am.Ring
open Go.Am.G

theorem flat_small (n : Nat) (f : Nat → List (Nat × Nat)) (hf : ∀ a, (f a).length ≤ n) : ((List.range n).flatMap f).length ≤ n * n := by
  have : ∀ l : List Nat, (l.flatMap f).length ≤ l.length * n := by
    intro l
    induction l with
    | nil => simp
    | cons a l ih =>
      have := hf a
      rw [List.flatMap_cons, List.length_append, List.length_cons, Nat.add_mul, Nat.one_mul]
      omega
  have h := this (List.range n)
  rw [List.length_range] at h
  exact h
end Go.Am.Ring

/-
  What functions of chapter 04 compute, outright 7: the law RingNamed.
-/
set_option linter.unusedVariables false
set_option linter.unusedSimpArgs false
set_option maxRecDepth 10000
set_option maxHeartbeats 1000000
namespace Go.Am.Ring
open Go.Am.G

/-! ### Is a pair in a list? -/
def idxP (x : Nat × Nat) : List (Nat × Nat) → Nat → Int
  | [], _ => -1
  | a :: r, k => if x = a then (k : Int) else idxP x r (k + 1)
theorem idxP_mem (x : Nat × Nat) : ∀ (l : List (Nat × Nat)) (k : Nat), (0 ≤ idxP x l k) ↔ x ∈ l
  | [], k => by simp [idxP]
  | a :: r, k => by
    rw [idxP]
    by_cases h : x = a
    · simp [h]
    · simp [h, idxP_mem x r (k + 1)]
theorem idxP_neg (x : Nat × Nat) : ∀ (l : List (Nat × Nat)) (k : Nat), idxP x l k < 0 → idxP x l k = -1
  | [], k, _ => rfl
  | a :: r, k, h => by
    rw [idxP] at h ⊢
    split at h
    · omega
    · rename_i c
      rw [if_neg c]; exact idxP_neg x r (k + 1) h
theorem eq2N (a b : Nat × Nat) : eqIntsL [.int .i64 (a.1 : Int), .int .i64 (a.2 : Int)] [.int .i64 (b.1 : Int), .int .i64 (b.2 : Int)] = some (decide (a = b)) := by
  refine (eq2 (castP a) (castP b)).trans ?_
  congr 1
  rw [decide_eq_decide]
  constructor
  · intro e
    unfold castP at e
    simp only [Prod.mk.injEq] at e
    exact Prod.ext (by omega) (by omega)
  · rintro rfl; rfl
theorem index2_loop (nl ex : Bool) (sz : Nat) (T : List (Nat × Nat)) (hT : T.length < 1000000) (x : Nat × Nat) (j : Nat) : ∀ k, k + j = T.length →
    exF LP slices_Index_2_int_2_int.L0 [(0, FN nl ex sz T), (3, .ptr 0 0 2), (7, .int .i64 (T.length : Int)), (8, .int .i64 (k : Int))] [⟨[.int .i64 (x.1 : Int), .int .i64 (x.2 : Int)], true⟩] =
      if idxP x (T.drop k) k < 0 then some (.exit 0, [], [⟨[.int .i64 (x.1 : Int), .int .i64 (x.2 : Int)], true⟩]) else some (.ret, [(4, .int .i64 (idxP x (T.drop k) k))], [⟨[.int .i64 (x.1 : Int), .int .i64 (x.2 : Int)], true⟩]) := by
  induction j with
  | zero =>
    intro k hk
    rw [slices_Index_2_int_2_int.L0_eq, List.drop_eq_nil_of_le (show T.length ≤ k by omega), idxP, if_pos (by omega)]
    simp only [FN_eq]
    simp only [slices_Index_2_int_2_int.B0, exF_seq, exF_region, exF_cond, exF_exit, runL, wantL, stepL, evL, LEnv.at, putL, loadFine, LEnv.keep, List.map_cons, List.map_nil, nbeq, bin_lss, Nat.reduceEqDiff, decide_true, decide_false, cond_true, cond_false, reduceCtorEq, eq_self, show ¬ ((k : Int) < (T.length : Int)) by omega]
  | succ j ih =>
    intro k hk
    have h2 : k < T.length := by omega
    have hkk : (k : Int) < (T.length : Int) := by omega
    have hw := wrap_succ (show k + 1 < 9223372036854775808 by omega)
    have ih := ih (k + 1) (by omega)
    have seg := pcN_seg T k h2
    have ok := pcN_ok T k h2
    have he := eq2N x T[k]
    rw [slices_Index_2_int_2_int.L0_eq, List.drop_eq_getElem_cons h2, idxP]
    simp only [FN_eq] at ih ⊢
    by_cases c : x = T[k]
    · rw [decide_eq_true c] at he
      rw [if_pos c, if_neg (by omega)]
      simp only [slices_Index_2_int_2_int.B0, exF_seq, exF_region, exF_block, exF_cond, exF_ret, exF_skip, runL, wantL, stepL, evL, LEnv.at, putL, loadFine, loadL, cellsAt, Trk.putNew, Trk.up, Trk.touch, Trk.gives, Trk.calm, Trk.hit, opdsOf, Trk.fresh, LEnv.keep, List.map_cons, List.map_nil, nbeq, nble, nblt, bin_lss, natL_nat, List.any_cons, List.any_nil, Bool.or_false, Bool.or_true, Bool.and_true, Bool.false_and, Bool.not_true, Bool.not_false, Nat.reduceEqDiff, decide_true, decide_false, cond_true, cond_false, List.filter_nil, Nat.reduceAdd, Nat.reduceLeDiff, reduceCtorEq, List.length_nil, List.length_cons, eq_self, List.getElem?_cons_zero, List.take_succ_cons, List.drop_zero, List.take_nil, Nat.le_refl, hkk, h2, seg, ok, he, Bool.false_xor]
    · rw [decide_eq_false c] at he
      rw [if_neg c, ← ih]
      simp only [slices_Index_2_int_2_int.B0, exF_seq, exF_region, exF_block, exF_cond, exF_skip, runL, wantL, stepL, evL, evC, LEnv.at, putL, loadFine, loadL, cellsAt, Trk.putNew, Trk.up, Trk.touch, Trk.gives, Trk.calm, Trk.hit, opdsOf, Trk.fresh, LEnv.keep, List.map_cons, List.map_nil, nbeq, nble, nblt, bin_add, bin_lss, natL_nat, List.any_cons, List.any_nil, Bool.or_false, Bool.or_true, Bool.and_true, Bool.false_and, Bool.not_true, Bool.not_false, Nat.reduceEqDiff, decide_true, decide_false, cond_true, cond_false, List.filter_nil, Nat.reduceAdd, Nat.reduceLeDiff, reduceCtorEq, List.length_nil, List.length_cons, eq_self, List.getElem?_cons_zero, List.take_succ_cons, List.drop_zero, List.take_nil, Nat.le_refl, hkk, h2, seg, ok, he, Bool.false_xor, hw]
theorem index2_c (nl ex : Bool) (sz : Nat) (T : List (Nat × Nat)) (hT : T.length < 1000000) (x : Nat × Nat) (m : LMem) : clF LP n_slices_Index_2_int_2_int [FN nl ex sz T, .agg [.int .i64 (x.1 : Int), .int .i64 (x.2 : Int)]] m = some (.P, .int .i64 (idxP x T 0), m) := by
  have h := index2_loop nl ex sz T hT x T.length 0 (by omega)
  rw [List.drop_zero] at h
  simp only [Int.natCast_zero] at h
  refine call_P lp_slices_Index_2_int_2_int rfl (by simp [LV.pures, LV.pure]) (m1 := [⟨[.int .i64 (x.1 : Int), .int .i64 (x.2 : Int)], true⟩]) ?_ rfl m
  simp only [FN_eq] at h ⊢
  by_cases c : idxP x T 0 < 0
  · rw [if_pos c] at h
    rw [idxP_neg x T 0 c]
    simp only [slices_Index_2_int_2_int, slices_Index_2_int_2_int.B, exF_seq, exF_region, exF_block, exF_ret, runL, wantL, stepL, evL, evC, LEnv.at, putL, loadFine, LEnv.keep, LEnv.ofFrom, List.map_cons, List.map_nil, nbeq, lenL, Nat.reduceEqDiff, decide_true, decide_false, cond_true, cond_false, Nat.reduceAdd, reduceCtorEq, List.length_nil, List.length_cons, eq_self, retL, resultsL, resAllL, resOfL, List.nil_append, LV.cells, allocL, h]
  · rw [if_neg c] at h
    simp only [slices_Index_2_int_2_int, slices_Index_2_int_2_int.B, exF_seq, exF_region, exF_block, runL, wantL, stepL, evL, evC, LEnv.at, putL, loadFine, LEnv.keep, LEnv.ofFrom, List.map_cons, List.map_nil, nbeq, lenL, Nat.reduceEqDiff, decide_true, decide_false, cond_true, cond_false, Nat.reduceAdd, reduceCtorEq, List.length_nil, List.length_cons, eq_self, retL, resultsL, resAllL, resOfL, List.nil_append, LV.cells, allocL, h]
theorem contains2_c (nl ex : Bool) (sz : Nat) (T : List (Nat × Nat)) (hT : T.length < 1000000) (x : Nat × Nat) (m : LMem) : clF LP n_slices_Contains_2_int_2_int [FN nl ex sz T, .agg [.int .i64 (x.1 : Int), .int .i64 (x.2 : Int)]] m = some (.P, .bool (decide (x ∈ T)), m) := by
  have h := fun m => index2_c nl ex sz T hT x m
  refine call_P lp_slices_Contains_2_int_2_int rfl (by simp [LV.pures, LV.pure]) (m1 := [⟨[.int .i64 (x.1 : Int), .int .i64 (x.2 : Int)], true⟩]) ?_ rfl m
  have h2 := idxP_mem x T 0
  simp only [FN_eq] at h ⊢
  simp only [slices_Contains_2_int_2_int, slices_Contains_2_int_2_int.B, exF_seq, exF_region, exF_ret, runL, wantL, stepL, evL, evC, LEnv.at, putL, loadFine, loadL, cellsAt, Trk.putNew, Trk.up, Trk.touch, Trk.gives, Trk.calm, Trk.hit, opdsOf, Trk.fresh, LEnv.keep, LEnv.ofFrom, List.map_cons, List.map_nil, nbeq, nble, ofAVs, bin_geq, List.any_cons, List.any_nil, Bool.or_false, Bool.or_true, Bool.and_true, Bool.false_and, Bool.not_true, Bool.not_false, Nat.reduceEqDiff, decide_true, decide_false, cond_true, cond_false, List.filter_nil, Nat.reduceAdd, Nat.reduceLeDiff, reduceCtorEq, List.length_nil, List.length_cons, eq_self, retL, resultsL, resAllL, resOfL, List.append_nil, List.nil_append, LV.cells, allocL, List.getElem?_cons_zero, List.take_succ_cons, List.drop_zero, List.take_nil, Nat.le_refl, h]
  rw [decide_eq_decide.2 h2]

/-! ### Finds in memory that may be read alone -/
def Sh (m : LMem) (v : LV) (P : List (Nat × Nat)) : Prop :=
  (∃ a b z, v = FN a b z P ∧ FVok P a z) ∨ ∃ i w, v = .sl i 0 P.length P.length 2 2 (P.length * 2) ∧ m[i]? = some ⟨Pcs P, w⟩
theorem Sh.of {m : LMem} {v : LV} {P : List (Nat × Nat)} (h : Lst m v 2 P.length (Pcs P)) : Sh m v P := by
  rcases h with ⟨nl, ex, z, rfl, _, hz, hn, _⟩ | ⟨b, rfl, hb, _, _⟩
  · refine .inl ⟨nl, ex, z, (FN_eq nl ex z P).symm, ?_⟩
    by_cases c : P = []
    · exact .inl c
    · have hl : P.length ≠ 0 := fun e => c (List.length_eq_zero_iff.1 e)
      refine .inr ⟨?_, hz.resolve_left hl⟩
      cases nl
      · rfl
      · exact absurd (hn rfl) hl
  · exact .inr ⟨b, true, rfl, hb⟩
theorem Sh.mono {m m' : LMem} {v : LV} {P : List (Nat × Nat)} (h : Sh m v P) (hm : ∀ (i : Nat) cs w, m[i]? = some ⟨cs, w⟩ → ∃ w', m'[i]? = some ⟨cs, w'⟩) : Sh m' v P := by
  rcases h with h | ⟨i, w, rfl, h⟩
  · exact .inl h
  · obtain ⟨w', h'⟩ := hm i _ _ h
    exact .inr ⟨i, w', rfl, h'⟩
theorem Sh.views {m : LMem} {v : LV} {P : List (Nat × Nat)} (h : Sh m v P) (n : Nat) : ∃ a b z ids, FVok P a z ∧ views m [.int .i64 (n : Int), v] = some ([.int .i64 (n : Int), FN a b z P], ids) := by
  rcases h with ⟨a, b, z, rfl, hv⟩ | ⟨i, w, rfl, h⟩
  · exact ⟨a, b, z, [], hv, views_pures m _ (by simp [LV.pures, LV.pure])⟩
  · refine ⟨false, Nat.beq 2 0 && Nat.beq P.length P.length, 2, [i], .inr ⟨rfl, rfl⟩, ?_⟩
    have hp := Pcs_len P
    rw [FN_eq]
    exact views_snd 92 m (.int .i64 (n : Int)) _ _ [i] (fun k => by
      have := view_slc k m i 0 P.length (P.length * 2) 2 P.length 2 (Pcs P) w h (by rw [List.drop_zero, List.take_of_length_le (by omega)]; exact Pcs_pures P) hp (by omega) (Nat.le_refl _)
      rw [List.drop_zero, List.take_of_length_le (by omega)] at this
      exact this) rfl rfl

/-! ### What is sure goes with the forms -/
theorem named3 (n : Nat) (hn : n ≤ 6) (to : List Nat) (hto : to.length = n) (S T : List (Nat × Nat)) (a b : Bool) (z : Nat) (a' b' : Bool) (z' : Nat) (hS : S.length < 1000000) (hT : T.length < 1000000) (hin : ∀ p ∈ S, p.1 < n ∧ p.2 < n ∧ (to.getD p.1 0, to.getD p.2 0) ∈ T) (j : Nat) : ∀ (k : Nat) (M : LMem) (w : Bool), k + j = S.length → M[3]? = some ⟨ints (ci to), w⟩ →
    ∃ M', exF LP law04_RingNamed.L3 [(7, .int .i64 (n : Int)), (10, .sl 3 0 n n 1 1 n), (28, FN a' b' z' T), (199, FN a b z S), (200, .int .i64 (S.length : Int)), (201, .int .i64 (k : Int))] M = some (.exit 6, [], M') := by
  induction j with
  | zero =>
    intro k M w hk h3
    refine ⟨M, ?_⟩
    rw [law04_RingNamed.L3_eq]
    simp only [law04_RingNamed.B3, exF_seq, exF_region, exF_cond, exF_exit, runL, wantL, stepL, evL, LEnv.at, putL, loadFine, LEnv.keep, List.map_cons, List.map_nil, nbeq, bin_lss, Nat.reduceEqDiff, decide_true, decide_false, cond_true, cond_false, eq_self, show ¬ ((k : Int) < (S.length : Int)) by omega]
  | succ j ih =>
    intro k M w hk h3
    have h2 : k < S.length := by omega
    have hkk : (k : Int) < (S.length : Int) := by omega
    have hw := wrap_succ (show k + 1 < 9223372036854775808 by omega)
    obtain ⟨p1, p2, p3⟩ := hin _ (List.getElem_mem h2)
    have seg := pcN_seg S k h2
    have ok := pcN_ok S k h2
    have hat : ∀ x, x < n → (ints (ci to))[x]? = some (.int .i64 ((to.getD x 0 : Nat) : Int)) := fun x hx => by
      rw [getD_at to x 0 (by omega), List.getElem?_map, List.getElem?_map, List.getElem?_eq_getElem (by omega)]; rfl
    have a1 := hat _ p1
    have a2 := hat _ p2
    have hlt : (ints (ci to)).length = n := by simp [hto]
    have hM := get_lt h3
    have hc := fun m => contains2_c a' b' z' T hT (to.getD S[k].1 0, to.getD S[k].2 0) m
    rw [decide_eq_true p3] at hc
    have hmin : ¬ (if ((S[k].2 : Nat) : Int) < ((S[k].1 : Nat) : Int) then ((S[k].2 : Nat) : Int) else ((S[k].1 : Nat) : Int)) < 0 := by split <;> omega
    have hmax : ¬ (n : Int) ≤ (if ((S[k].1 : Nat) : Int) < ((S[k].2 : Nat) : Int) then ((S[k].2 : Nat) : Int) else ((S[k].1 : Nat) : Int)) := by split <;> omega
    have h3' : ∀ b : LBlk, (M ++ [b])[3]? = some ⟨ints (ci to), w⟩ := fun b => by rw [List.getElem?_append_left hM]; exact h3
    obtain ⟨M', hex⟩ := ih (k + 1) (M ++ [⟨[.int .i64 ((S[k].1 : Nat) : Int), .int .i64 ((S[k].2 : Nat) : Int)], true⟩]) w (by omega) (h3' _)
    refine ⟨M', ?_⟩
    rw [law04_RingNamed.L3_eq]
    generalize S[k].1 = x1 at *
    generalize S[k].2 = x2 at *
    generalize to.getD x1 0 = y1 at *
    generalize to.getD x2 0 = y2 at *
    generalize ints (ci to) = TO at *
    generalize FN a' b' z' T = TV at *
    simp only [FN_eq] at hex ⊢
    simp only [law04_RingNamed.B3, law04_RingNamed.B3.R0, beqF, exF_seq, exF_region, exF_block, exF_cond, exF_skip, runL, wantL, stepL, evL, evC, LEnv.at, putL, loadFine, loadL, cellsAt, Trk.putNew, Trk.up, Trk.touch, Trk.gives, Trk.calm, Trk.hit, opdsOf, Trk.fresh, LEnv.keep, List.map_cons, List.map_nil, nbeq, nble, nblt, ofAV, ofAVs, bin_add, bin_lss, bin_geq, natL_nat, natL_zero, natL_one, List.any_cons, List.any_nil, Bool.or_false, Bool.or_true, Bool.and_true, Bool.false_and, Bool.not_true, Bool.not_false, Nat.reduceEqDiff, decide_true, decide_false, cond_true, cond_false, List.filter_nil, List.filter_cons, Nat.reduceAdd, Nat.reduceLeDiff, reduceCtorEq, List.length_nil, List.length_cons, Nat.mul_one, if_true, eq_self, List.append_nil, List.nil_append, List.cons_append, unL, LV.cells, allocL, List.getElem?_cons_zero, List.getElem?_cons_succ, storeL, spliceL, List.take_zero, List.take_succ_cons, List.drop_zero, List.drop_succ_cons, List.drop_nil, List.take_nil, Nat.le_refl, LV.scalar, List.all_cons, List.all_nil, Nat.lt_add_one, Nat.reduceLT, fillL, List.length_append, foldIntL, kind_beq, gt_iff_lt, Nat.zero_add, Nat.add_zero, hkk, h2, seg, ok, set_last, get_last, show ¬ M.length + 1 ≤ M.length by omega, show ¬ M.length + 1 ≤ 3 by omega, hmin, hmax, h3', hlt, p1, p2, a1, a2, hc, hw, hex]
theorem sure_small {n : Nat} {P : List (Nat × Nat)} (G : Good n P) : (sureS n P).length ≤ 36 := by
  have := flat_small n (fun a => sureL n P a (List.range n)) (fun a => by have := sureL_len n P a (List.range n); simpa using this)
  have h36 : n * n ≤ 6 * 6 := Nat.mul_le_mul G.le6 G.le6
  unfold sureS; omega
theorem named_law (f k : Nat) (hf : f < 256) (hk : k < 256) (bs : List Nat) (hb : bs.length = 24) (hbs : ∀ x ∈ bs, x < 256) (cs : List Nat) (hc6 : cs.length = 6) (hcs : ∀ x ∈ cs, x < 256) (t : Nat) (ht : t < 256) :
    clF LP n_law04_RingNamed [.agg (bys (f :: k :: bs)), .agg (bys cs), .int .u8 (t : Int)] [] = some (.P, .bool true, []) := by
  obtain ⟨a, b, z, hv, hmade⟩ := made_c f k hf hk bs hb hbs 6 10 (by omega) (by omega)
  have hn : 2 ≤ 2 + f % (6 - 1) ∧ 2 + f % (6 - 1) ≤ 6 := by omega
  have hkk : k % (10 + 1) ≤ 10 := by omega
  have G := made_good hn.1 hn.2 bs (i := k % (10 + 1)) (by omega)
  generalize madeP (2 + f % (6 - 1)) bs (k % (10 + 1)) = P at *
  generalize (2 + f % (6 - 1) : Nat) = n at *
  have hlen : (bys (f :: k :: bs)).length = 26 := by simp [hb]
  have htk : (bys (f :: k :: bs)).take 26 = bys (f :: k :: bs) := List.take_of_length_le (by rw [hlen]; exact Nat.le_refl _)
  have hlen2 : (bys cs).length = 6 := by simp [hc6]
  let W : LBlk := ⟨bys (f :: k :: bs), true⟩
  have h0 := fun X2 X4 X8 => named0 X2 X4 X8 [W, ⟨bys cs, true⟩] n hn.2 n 0 (by omega)
  obtain ⟨Z', h1⟩ := named1 (.int .u8 (t : Int)) (FN a b z P) W cs hc6 hcs n hn.2 n 0 (List.range n) [] [] (by omega) (by simp) rfl rfl
  have hgv : GV 2 (ci (List.range n)) = .sl 2 0 n n 1 1 n := by
    have : ci (List.range n) ≠ [] := by
      intro c; have := congrArg List.length c; simp at this; omega
    simp [GV]; omega
  have hgm : GM (ci (List.range n)) = [⟨ints (ci (List.range n)), true⟩] := by
    have : ci (List.range n) ≠ [] := by
      intro c; have := congrArg List.length c; simp at this; omega
    simp [GM]; omega
  have hdl := drawn_len n cs
  have hdnd := drawn_nodup n cs
  have hdm := drawn_mem n cs
  have hdef : drw cs n 0 (List.range n) [] = drawn n cs := rfl
  rw [hdef] at h1
  generalize drawn n cs = to at *
  have hne : ci to ≠ [] := by
    intro c; have := congrArg List.length c; rw [ci_len, hdl] at this; simp at this; omega
  have hgv3 : GV 3 (ci to) = .sl 3 0 n n 1 1 n := by simp only [GV, if_neg hne, ci_len, hdl]
  have hgm3 : GM (ci to) = [⟨ints (ci to), true⟩] := by simp only [GM, if_neg hne]
  rw [hgv3, hgm3] at h1
  have e0 : GV 3 (ci []) = .lst true true 0 0 [] := rfl
  have e1 : GM (ci []) = [] := rfl
  rw [e0, e1] at h1
  have e2 : ci (List.range 0) = [] := rfl
  rw [e2] at h0
  have e3 : ∀ q, GV q [] = .lst true true 0 0 [] := fun q => rfl
  have e4 : GM [] = [] := rfl
  simp only [List.length_cons, List.length_nil, Nat.zero_add, Nat.reduceAdd, e3, e4, hgv, hgm, List.append_nil, List.cons_append, List.nil_append] at h0 h1
  have R := rel_of hdl hdnd hdm
  obtain ⟨vo, M2, h2, hLo, h3M, hnb⟩ := named2 G a b z to hdl t ht P.length 0 [W, ⟨bys cs, true⟩, ⟨Z', true⟩, ⟨ints (ci to), true⟩] (.lst true true 0 0 []) (by omega) rfl (Lst.nil _ 2) (by simp [isBlk])
  have GQ := turnP_good R G t
  obtain ⟨k1, k2, k3, k4, k5⟩ := turn_all R G t
  have hLq := turnP_len (fun x => to.getD x 0) P t
  rw [← hLq] at hLo
  generalize turnP (fun x => to.getD x 0) P t = Q at *
  have S0 := Sh.of hLo
  obtain ⟨qa, qb, qz, ids, hqv, hvs⟩ := S0.views n
  have hpQ : LV.pures [.int .i64 (n : Int), FN qa qb qz Q] = true := by simp [LV.pures, LV.pure]
  have hF1 := fun m => fewest_c n P G a b z m
  have hF2 := call_view lp_ring_Fewest rfl hvs hpQ (fewest_c n Q GQ qa qb qz []) rfl
  have hC1 := fun m => count_c n P G a b z m
  have hC2 := call_view lp_ring_Count rfl hvs hpQ (count_c n Q GQ qa qb qz []) rfl
  have k1' : (fwD anyM Q n 0).1 = (fwD anyM P n 0).1 := k1
  rw [k1'] at hF2
  rw [k2] at hC2
  obtain ⟨pa, pb, pz, hA1⟩ := apart_c G a b z
  obtain ⟨oa, ob, oz, hA2'⟩ := apart_c GQ qa qb qz
  obtain ⟨M3, hA2, _, hl3, hs3⟩ := call_shown2 lp_ring_Apart rfl hvs hpQ (hA2' [])
  have S1 := S0.mono hs3
  obtain ⟨w3, h3M3⟩ := hs3 3 _ _ h3M
  obtain ⟨ra, rb, rz, ids2, hrv, hvs2⟩ := S1.views n
  have hpR : LV.pures [.int .i64 (n : Int), FN ra rb rz Q] = true := by simp [LV.pures, LV.pure]
  obtain ⟨sa, sb, sz, hS1⟩ := sure_c n P G a b z
  obtain ⟨ta, tb, tz, hS2'⟩ := sure_c n Q GQ ra rb rz
  obtain ⟨M4, hS2, _, hl4, hs4⟩ := call_shown2 lp_ring_Sure rfl hvs2 hpR (hS2' [])
  obtain ⟨w4, h3M4⟩ := hs4 3 _ _ h3M3
  have hsm1 := sure_small G
  have hsm2 := sure_small GQ
  obtain ⟨M5, h5⟩ := named3 n hn.2 to hdl (sureS n P) (sureS n Q) sa sb sz ta tb tz (by omega) (by omega) (fun p hp => by
    obtain ⟨q1, q2, _⟩ := (sure_iff G).1 (show (p.1, p.2) ∈ sureS n P from hp)
    exact ⟨q1, q2, k5 p.1 p.2 hp⟩) (sureS n P).length 0 M4 w4 (by omega) h3M4
  have lS1 : lenL (FN sa sb sz (sureS n P)) = some (sureS n P).length := by rw [FN_eq]; rfl
  have lS2 : lenL (FN ta tb tz (sureS n Q)) = some (sureS n P).length := by rw [FN_eq, ← k4]; rfl
  have lP : lenL (FN a b z P) = some P.length := by rw [FN_eq]; rfl
  have e6 : ((6 : Nat) : Int) = 6 := rfl
  have e10 : ((10 : Nat) : Int) = 10 := rfl
  rw [e6, e10] at hmade
  rw [k3] at hA2
  simp only [Int.natCast_zero] at h0 h1 h2 h5
  refine call_P lp_law04_RingNamed rfl (by simp only [LV.pures, LV.pure, pures_int, Bool.and_self]) (m1 := M5) ?_ rfl []
  simp only [W] at h0 h1 h2
  generalize rows (ap (allR P)) = AP at *
  generalize rows (ap (allR Q)) = AQ at *
  generalize (ap (allR P)).length = apl at *
  generalize FN sa sb sz (sureS n P) = SV at *
  generalize FN ta tb tz (sureS n Q) = TV at *
  generalize (sureS n P).length = sl at *
  generalize FN a b z P = FP at *
  generalize bys (f :: k :: bs) = Wb at *
  generalize bys cs = Cb at *
  generalize (fwD anyM P n 0).1 = fw at *
  generalize (fwD anyM P n 0).2 = ws at *
  generalize ints (ci to) = TO at *
  generalize ints (ci (List.range n)) = RG at *
  simp only [law04_RingNamed, law04_RingNamed.B, law04_RingNamed.B.R0, law04_RingNamed.B.R1, law04_RingNamed.B.R2, law04_RingNamed.B.R3, law04_RingNamed.B.R4, law04_RingNamed.B.R5, law04_RingNamed.B.R6, law04_RingNamed.B.R7, law04_RingNamed.B.R8, law04_RingNamed.B.R9]
  repeat (rw [exF_seq]; try simp only [beqF, exF_seq, exF_region, exF_block, exF_cond, exF_ret, exF_skip, runL, wantL, stepL, evL, evC, LEnv.at, putL, loadFine, loadL, cellsAt, Trk.calm, Trk.hit, LEnv.keep, LEnv.ofFrom, List.map_cons, List.map_nil, nbeq, nble, ofAVs, bin_neq, List.any_nil, Bool.or_false, Bool.or_true, Bool.and_true, Bool.false_and, Bool.not_true, Bool.not_false, Nat.reduceEqDiff, decide_true, decide_false, cond_true, cond_false, Nat.reduceAdd, Nat.reduceLeDiff, reduceCtorEq, List.length_nil, List.length_cons, eq_self, retL, resultsL, resAllL, resOfL, List.append_nil, List.nil_append, List.cons_append, not_true_eq_false, ne_eq, LV.cells, allocL, List.getElem?_cons_zero, List.getElem?_cons_succ, List.drop_zero, Nat.le_refl, lenL_lst, hlen, htk, hlen2, hmade, h0, h1, lP, h2, hF1, hF2, hC1, hC2, hA1, hA2, hS1, hS2, lS1, lS2, h5, works_c])
theorem named_in (ns : List Int) (hl : ns.length = 26) (h : ∀ x ∈ ns, 0 ≤ x ∧ x < 256) (ms : List Int) (hl2 : ms.length = 6) (h2 : ∀ x ∈ ms, 0 ≤ x ∧ x < 256) (t : Int) (ht : 0 ≤ t ∧ t < 256) : clF LP n_law04_RingNamed [.agg (ns.map (LV.int .u8)), .agg (ms.map (LV.int .u8)), .int .u8 t] [] = some (.P, .bool true, []) := by
  obtain ⟨f, k, bs, e, hf, hk, hb, hbs⟩ := lay_of ns hl h
  obtain ⟨cs, rfl, hcs, hcl⟩ := bys_of ms h2
  obtain ⟨t, rfl⟩ := Int.eq_ofNat_of_zero_le ht.1
  rw [e]
  exact named_law f k hf hk bs hb hbs cs (by omega) hcs t (by omega)
end Go.Am.Ring

/-
  THE JOIN, 3: arguments read behind the call as before it.
-/
set_option linter.unusedVariables false
namespace Go.Am
variable [Glo]
open Go.RowKit
omit [Glo] in
theorem trodAll_below {H : Type} {enc : TypeId × Value → H} {P : Program} {W W' : World} (hl : laidOutB P = true) (hb : Below W.heap.size W W') : ∀ {ts : List TypeId} {vs : List Value} {ds : List (DataW H)} {ps : List MemPlace}, (ts.all fun t => P.readableRec t && decide (t < P.types.size)) = true →
    DataW.TrodAll enc P W 0 (fun _ => true) true ts vs ds ps → (∀ x ∈ ps, x.block < W.heap.size) → DataW.TrodAll enc P W' 0 (fun b => decide (b < W.heap.size)) true ts vs ds ps
  | [], [], [], _, _, h, _ => h
  | t :: ts, v :: vs, d :: ds, ps, hr, ⟨p, q, h1, h2, e⟩, hlt => by
    simp only [List.all_cons, Bool.and_eq_true, decide_eq_true_eq] at hr
    subst e
    exact ⟨p, q, Below.trod hl hr.1.1 hr.1.2 h1 hb (fun x hx => hlt x (List.mem_append_left _ hx)), trodAll_below hl hb hr.2 h2 (fun x hx => hlt x (List.mem_append_right _ hx)), rfl⟩
end Go.Am

/-
  THE JOIN, 4: structs of bytes that came in.
-/
set_option linter.unusedVariables false
namespace Go.Am
variable [Glo]
open Go.RowKit

/-! ### Types that hold bytes alone -/
def sumPc : Nat → List (Nat × Nat) → Option Nat
  | off, [] => some off
  | off, (o, k) :: r => cond (Nat.beq o off) (sumPc (off + k) r) none
def pcsF (P : Program) (g : TypeId → Option Nat) : List Field → Option (List (Nat × Nat))
  | [] => some []
  | f :: r => match g f.type with
    | some k => match pcsF P g r with
      | some l => cond (Nat.beq (P.cellsOf f.type) k) (some ((f.offset, k) :: l)) none
      | none => none
    | none => none
/-- How many bytes. -/
def u8T (P : Program) : Nat → TypeId → Option Nat
  | 0, _ => none
  | n + 1, t => match P.underlying t with
    | some (.int .u8) => some 1
    | some (.array m e) => match u8T P n e with
      | some k => cond (Nat.beq (P.cellsOf e) k && Nat.beq (P.cellsOf t) (m * k)) (some (m * k)) none
      | none => none
    | some (.struct fs) => match pcsF P (u8T P n) fs.toList with
      | some l => match sumPc 0 l with
        | some k => cond (Nat.beq (P.cellsOf t) k) (some k) none
        | none => none
      | none => none
    | _ => none
def U8s (cs : List Value) : Prop := ∀ (i : Nat) (v : Value), cs[i]? = some v → ∃ n : Int, v = .int .u8 n ∧ (Lit.int .u8 n).wf = true

omit [Glo] in
theorem sumPc_in : ∀ (l : List (Nat × Nat)) (off tot : Nat), sumPc off l = some tot → ∀ i, off ≤ i → i < tot → ∃ p ∈ l, p.1 ≤ i ∧ i < p.1 + p.2
  | [], off, tot, h, i, h1, h2 => by simp only [sumPc, Option.some.injEq] at h; omega
  | (o, k) :: r, off, tot, h, i, h1, h2 => by
    simp only [sumPc] at h
    cases c : Nat.beq o off <;> rw [c] at h
    · cases h
    · have e : o = off := by simpa using c
      subst e
      by_cases hi : i < o + k
      · exact ⟨(o, k), by simp, h1, hi⟩
      · obtain ⟨p, hp, h3⟩ := sumPc_in r _ _ h i (by omega) h2
        exact ⟨p, by simp [hp], h3⟩
omit [Glo] in
theorem pcsF_in {P : Program} {g : TypeId → Option Nat} : ∀ (fs : List Field) (l : List (Nat × Nat)), pcsF P g fs = some l → ∀ p ∈ l, ∃ (i : Nat) (f : Field), fs[i]? = some f ∧ f.offset = p.1 ∧ g f.type = some p.2 ∧ P.cellsOf f.type = p.2
  | [], l, h, p, hp => by simp only [pcsF, Option.some.injEq] at h; subst h; cases hp
  | f :: r, l, h, p, hp => by
    simp only [pcsF] at h
    split at h
    · rename_i k hk
      split at h
      · rename_i l' hl'
        cases c : Nat.beq (P.cellsOf f.type) k <;> rw [c] at h
        · cases h
        · simp only [cond_true, Option.some.injEq] at h
          subst h
          rcases List.mem_cons.1 hp with rfl | hp
          · exact ⟨0, f, rfl, rfl, hk, by simpa using c⟩
          · obtain ⟨i, f', h1, h2⟩ := pcsF_in r l' hl' p hp
            exact ⟨i + 1, f', by simpa using h1, h2⟩
      · cases h
    · cases h

section
variable {H : Type} {enc : TypeId × Value → H} {P : Program} {w : World} {base : Nat} {sp : Nat → Bool} {held : Bool}
omit [Glo] in
theorem u8T_ok : ∀ (n : Nat) (t : TypeId) (fuel : Nat) (cs : List Value) (x : DataW H × List MemPlace) (k : Nat), u8T P n t = some k → DataW.trod enc P w base sp held fuel t cs = some x → U8s cs ∧ cs.length = k
  | 0, _, _, _, _, _, h, _ => by cases h
  | n + 1, t, fuel, cs, x, k, h, hx => by
    simp only [u8T] at h
    split at h
    · rename_i ht
      cases h
      obtain ⟨a, rfl, _, hw⟩ := DataW.trod_int ht hx
      refine ⟨fun i v hv => ?_, rfl⟩
      match i with
      | 0 => simp at hv; subst hv; exact ⟨a, rfl, hw⟩
      | i + 1 => simp at hv
    · rename_i m e ht
      split at h
      · rename_i k' hk'
        cases c : (Nat.beq (P.cellsOf e) k' && Nat.beq (P.cellsOf t) (m * k')) <;> rw [c] at h
        · cases h
        · simp only [cond_true, Option.some.injEq] at h
          subst h
          simp only [Bool.and_eq_true] at c
          have c1 : P.cellsOf e = k' := by simpa using c.1
          have c2 : P.cellsOf t = m * k' := by simpa using c.2
          obtain ⟨xs, m', _, _, hl, hxl, hf⟩ := DataW.trod_array ht hx
          rw [c2] at hl
          refine ⟨fun i v hv => ?_, hl⟩
          have hi : i < m * k' := by rw [← hl]; exact (List.getElem?_eq_some_iff.1 hv).1
          have hk0 : 0 < k' := by
            rcases Nat.eq_zero_or_pos k' with e0 | e0
            · rw [e0] at hi; simp at hi
            · exact e0
          have h1 : i / k' < m := (Nat.div_lt_iff_lt_mul hk0).2 hi
          have h2 : i % k' < k' := Nat.mod_lt _ hk0
          have h3 : (i / k') * k' + i % k' = i := by rw [Nat.mul_comm]; exact Nat.div_add_mod i k'
          have h4 := hf (i / k') h1
          rw [c1] at h4
          obtain ⟨y, hy⟩ : ∃ y, xs[i / k']? = some y := ⟨xs[i / k']'(by omega), List.getElem?_eq_getElem (by omega)⟩
          rw [hy] at h4
          obtain ⟨h5, _⟩ := u8T_ok n e m' _ y k' hk' h4
          refine h5 (i % k') v ?_
          rw [List.getElem?_take, if_pos h2, List.getElem?_drop, h3]
          exact hv
      · cases h
    · rename_i fs ht
      split at h
      · rename_i l hl'
        split at h
        · rename_i k' hk'
          cases c : Nat.beq (P.cellsOf t) k' <;> rw [c] at h
          · cases h
          · simp only [cond_true, Option.some.injEq] at h
            subst h
            have c2 : P.cellsOf t = k' := by simpa using c
            obtain ⟨xs, m', _, _, hl, hxl, hf⟩ := DataW.trod_struct ht hx
            rw [c2] at hl
            refine ⟨fun i v hv => ?_, hl⟩
            have hi : i < k' := by rw [← hl]; exact (List.getElem?_eq_some_iff.1 hv).1
            obtain ⟨p, hp, p1, p2⟩ := sumPc_in l 0 k' hk' i (Nat.zero_le _) hi
            obtain ⟨j, f, f1, f2, f3, f4⟩ := pcsF_in _ _ hl' p hp
            have f1' : fs[j]? = some f := by simpa using f1
            have hj : j < fs.size := (Array.getElem?_eq_some_iff.1 f1').1
            have h4 := hf j f f1'
            rw [f4, f2] at h4
            obtain ⟨y, hy⟩ : ∃ y, xs[j]? = some y := ⟨xs[j]'(by omega), List.getElem?_eq_getElem (by omega)⟩
            rw [hy] at h4
            obtain ⟨h5, _⟩ := u8T_ok n f.type m' _ y p.2 f3 h4
            refine h5 (i - p.1) v ?_
            rw [List.getElem?_take, if_pos (by omega), List.getElem?_drop, show p.1 + (i - p.1) = i by omega]
            exact hv
        · cases h
      · cases h
    · cases h

omit [Glo] in
theorem u8s_list : ∀ {cs : List Value}, U8s cs → ∃ ns : List Int, cs = ns.map (Value.int .u8) ∧ ∀ n ∈ ns, 0 ≤ n ∧ n < 256
  | [], _ => ⟨[], rfl, by simp⟩
  | v :: r, h => by
    obtain ⟨n, rfl, hw⟩ := h 0 v rfl
    obtain ⟨ns, e, hb⟩ := u8s_list (cs := r) fun i v hv => h (i + 1) v (by simpa using hv)
    refine ⟨n :: ns, by rw [e]; rfl, ?_⟩
    intro x hx
    rcases List.mem_cons.1 hx with rfl | hx
    · have := bounds_u8 hw; omega
    · exact hb x hx

omit [Glo] in
theorem argOk_bytes (w : World) (ns : List Int) : ArgOk w (.agg (ns.map (Value.int .u8)).toArray) (.agg (ns.map (LV.int .u8))) := by
  refine ⟨fun _ => [], [], fun _ => .agg (ns.map (AV.int .u8)), fun _ => rfl, fun ρ b _ => ⟨.agg ?_, fun i cs p h => by simp at h⟩, fun s b _ => .agg ?_⟩
  · show VRs ρ _ (ns.map (Value.int .u8)).toArray.toList
    simp only []
    induction ns with
    | nil => exact .nil
    | cons n r ih => exact .cons (.int _ _) ih
  · exact LRs.map _ fun x _ => .int _ _

omit [Glo] in
/-- A struct of bytes among the arguments. -/
theorem argOk_struct {r : Reach} {b0 n k : Nat} {t : TypeId} {fs : Array Field} {v : Value} {d : DataW H} {ps : List MemPlace} (ht : P.underlying t = some (.struct fs)) (hk : u8T P n t = some k)
    (hval : Value.okWide P w r b0 t v) (hd : DataW.Trod enc P w base sp held t v d ps) :
    ∃ ns : List Int, ns.length = k ∧ (∀ n ∈ ns, 0 ≤ n ∧ n < 256) ∧ ArgOk w v (.agg (ns.map (LV.int .u8))) := by
  obtain ⟨cs, rfl, _⟩ := Go.WideShapes.okWide_struct ht hval
  obtain ⟨fuel, hf⟩ := hd
  obtain ⟨h1, h2⟩ := u8T_ok n t fuel _ _ k hk hf
  obtain ⟨ns, e, hb⟩ := u8s_list h1
  have e' : cs = (ns.map (Value.int .u8)).toArray := by
    apply Array.ext'
    simpa [Value.cells] using e
  subst e'
  refine ⟨ns, ?_, hb, argOk_bytes w ns⟩
  simpa [Value.cells] using h2
omit [Glo] in
/-- An array of bytes among the arguments. -/
theorem argOk_array {r : Reach} {b0 n k m : Nat} {t e : TypeId} {v : Value} {d : DataW H} {ps : List MemPlace} (ht : P.underlying t = some (.array m e)) (hk : u8T P n t = some k)
    (hval : Value.okWide P w r b0 t v) (hd : DataW.Trod enc P w base sp held t v d ps) :
    ∃ ns : List Int, ns.length = k ∧ (∀ n ∈ ns, 0 ≤ n ∧ n < 256) ∧ ArgOk w v (.agg (ns.map (LV.int .u8))) := by
  obtain ⟨cs, rfl, _⟩ : ∃ cs, v = .agg cs ∧ cs.size = P.cellsOf t := by
    simp only [Value.okWide, ht] at hval
    obtain ⟨cs, h1, h2, _⟩ := hval
    exact ⟨cs, h1, h2⟩
  obtain ⟨fuel, hf⟩ := hd
  obtain ⟨h1, h2⟩ := u8T_ok n t fuel _ _ k hk hf
  obtain ⟨ns, e, hb⟩ := u8s_list h1
  have e' : cs = (ns.map (Value.int .u8)).toArray := by
    apply Array.ext'
    simpa [Value.cells] using e
  subst e'
  refine ⟨ns, ?_, hb, argOk_bytes w ns⟩
  simpa [Value.cells] using h2
end
end Go.Am


