/-
  What functions of chapter 04 compute, 27: the shortest ring, of the reference; Index, Contains and Min of lists.
-/
import Derived.Test.YtheppipmnfjdcaaRingC25
import Derived.Test.YtheppipmnfjdcaaRingC25
set_option linter.unusedVariables false
set_option linter.unusedSimpArgs false
set_option maxRecDepth 10000
namespace Go.Am.Ring
open Go.Am.G

def shorterD (o r : List Nat) : List Nat := if r.length < o.length then r else o
theorem shorter_some : ∀ (l : List (List Nat)) (a : List Nat), l.foldl shorter (some a) = some (l.foldl shorterD a)
  | [], a => rfl
  | r :: l, a => by
    rw [List.foldl_cons, List.foldl_cons, ← shorter_some l]
    congr 1
    simp only [shorter, shorterD]
    split <;> rfl
theorem minR_cons {P : List (Nat × Nat)} {a : List Nat} {l : List (List Nat)} (h : allR P = a :: l) : minR P = some (l.foldl shorterD a) := by
  rw [minR, h, List.foldl_cons]; exact shorter_some l a
theorem minR_nil {P : List (Nat × Nat)} (h : allR P = []) : minR P = none := by rw [minR, h]; rfl
theorem minR_mem {P : List (Nat × Nat)} {r : List Nat} (h : minR P = some r) : r ∈ allR P := by
  have hs : ∀ (l : List (List Nat)) (a : List Nat), l.foldl shorterD a ∈ a :: l := by
    intro l
    induction l with
    | nil => intro a; simp
    | cons b l ih =>
      intro a
      have := ih (shorterD a b)
      rw [List.foldl_cons]
      rcases List.mem_cons.1 this with h | h
      · rw [h]; unfold shorterD; split <;> simp
      · simp [h]
  match hA : allR P with
  | [] => rw [minR_nil hA] at h; cases h
  | a :: l =>
    rw [minR_cons hA] at h
    simp only [Option.some.injEq] at h
    rw [← h]; exact hs l a
theorem rowN_at (R : List (List Nat)) (i : Nat) (h : i < R.length) : (rows R)[i]? = some (rlv (ci R[i])) := by rw [List.getElem?_map, List.getElem?_eq_getElem h]; rfl
theorem ringR_loop (nl ex : Bool) (sz : Nat) (R : List (List Nat)) (hR : R.length < 1000000000) (j : Nat) : ∀ (k : Nat) (o : List Nat), k + j = R.length →
    exF LP ref04_Ring.L0 [(7, .lst nl ex sz R.length (rows R)), (8, rlv (ci o)), (9, .int .i64 (k : Int))] [] = some (.exit 0, [(8, rlv (ci ((R.drop k).foldl shorterD o)))], []) := by
  induction j with
  | zero =>
    intro k o hk
    rw [ref04_Ring.L0_eq, List.drop_eq_nil_of_le (by omega)]
    simp only [ref04_Ring.B0, exF_seq, exF_region, exF_cond, exF_exit, runL, wantL, stepL, evL, LEnv.at, putL, loadFine, LEnv.keep, List.map_cons, List.map_nil, nbeq, lenL, bin_lss, Nat.reduceEqDiff, decide_true, decide_false, cond_true, cond_false, eq_self, show ¬ ((k : Int) < (R.length : Int)) by omega, List.foldl_nil]
  | succ j ih =>
    intro k o hk
    have h2 : k < R.length := by omega
    have hkk : (k : Int) < (R.length : Int) := by omega
    have hw := wrap_succ (show k + 1 < 9223372036854775808 by omega)
    have ra := rowN_at R k h2
    rw [ref04_Ring.L0_eq, List.drop_eq_getElem_cons h2, List.foldl_cons]
    have h1 : ∀ l : List Nat, lenL (rlv (ci l)) = some l.length := fun l => by simp [lenL]
    by_cases c : R[k].length < o.length
    · have c' : (R[k].length : Int) < (o.length : Int) := by omega
      have ih := ih (k + 1) R[k] (by omega)
      rw [shorterD, if_pos c]
      generalize rows R = RR at *
      generalize hr1 : rlv (ci R[k]) = r1 at *
      have h1k : lenL r1 = some R[k].length := by rw [← hr1]; exact h1 _
      have h1o := h1 o
      generalize hr2 : rlv (ci o) = r2 at *
      simp only [ref04_Ring.B0, exF_seq, exF_region, exF_block, exF_cond, exF_skip, runL, wantL, stepL, evL, evC, LEnv.at, putL, loadFine, loadL, cellsAt, Trk.putNew, Trk.up, Trk.touch, Trk.gives, Trk.calm, opdsOf, Trk.fresh, LEnv.keep, List.map_cons, List.map_nil, nbeq, nble, nblt, bin_add, bin_lss, natL_nat, List.any_cons, List.any_nil, Bool.or_false, Bool.or_true, Bool.and_true, Bool.false_and, Bool.not_true, Bool.not_false, Nat.reduceEqDiff, decide_true, decide_false, cond_true, cond_false, List.filter_nil, Nat.reduceAdd, Nat.reduceLeDiff, List.length_nil, Nat.mul_one, eq_self, lenL_lst, hkk, h2, ra, h1k, h1o, c', hw, ih]
    · have c' : ¬ (R[k].length : Int) < (o.length : Int) := by omega
      have ih := ih (k + 1) o (by omega)
      rw [shorterD, if_neg c]
      generalize rows R = RR at *
      generalize hr1 : rlv (ci R[k]) = r1 at *
      have h1k : lenL r1 = some R[k].length := by rw [← hr1]; exact h1 _
      have h1o := h1 o
      generalize hr2 : rlv (ci o) = r2 at *
      simp only [ref04_Ring.B0, exF_seq, exF_region, exF_block, exF_cond, exF_skip, runL, wantL, stepL, evL, evC, LEnv.at, putL, loadFine, loadL, cellsAt, Trk.putNew, Trk.up, Trk.touch, Trk.gives, Trk.calm, opdsOf, Trk.fresh, LEnv.keep, List.map_cons, List.map_nil, nbeq, nble, nblt, bin_add, bin_lss, natL_nat, List.any_cons, List.any_nil, Bool.or_false, Bool.or_true, Bool.and_true, Bool.false_and, Bool.not_true, Bool.not_false, Nat.reduceEqDiff, decide_true, decide_false, cond_true, cond_false, List.filter_nil, Nat.reduceAdd, Nat.reduceLeDiff, List.length_nil, Nat.mul_one, eq_self, lenL_lst, hkk, h2, ra, h1k, h1o, c', hw, ih]
theorem ringR_c' {n : Nat} {P : List (Nat × Nat)} (G : Good n P) (nl ex : Bool) (sz : Nat) (m : LMem) : clF LP n_ref04_Ring [.int .i64 (n : Int), FN nl ex sz P] m = some (.P, ringV P, m) := by
  have hc := fun m => checkR_c nl ex sz (n : Int) (P.map castP) (by have := G.le12; simp; omega) m
  rw [chkF_of G] at hc
  obtain ⟨a, b, z, hz, hal⟩ := allR_c G nl ex sz
  have hlen := allR_len G
  unfold ringV
  match hA : allR P with
  | [] =>
    rw [minR_nil hA]
    simp only [hA, List.length_nil, List.map_nil] at hal
    refine call_P lp_ref04_Ring rfl (by simp [LV.pures, LV.pure]) (m1 := []) ?_ rfl m
    simp only [FN_eq] at hc hal ⊢
    simp only [ref04_Ring, ref04_Ring.B, exF_seq, exF_region, exF_cond, exF_ret, exF_skip, runL, wantL, stepL, evL, evC, LEnv.at, putL, loadFine, LEnv.keep, LEnv.ofFrom, List.map_cons, List.map_nil, nbeq, ofAVs, lenL, bin_eql, bin_neq, Nat.reduceEqDiff, decide_true, decide_false, cond_true, cond_false, Nat.reduceAdd, reduceCtorEq, eq_self, retL, resultsL, resAllL, resOfL, List.append_nil, List.nil_append, not_true_eq_false, ne_eq, Int.natCast_zero, hc, hal]
  | r :: l =>
    rw [minR_cons hA]
    have hloop := ringR_loop a b z (allR P) (by omega) l.length 1 r (by rw [hA]; simp; omega)
    rw [hA, List.drop_succ_cons, List.drop_zero] at hloop
    rw [hA] at hlen
    have r0 := rowN_at (r :: l) 0 (by simp)
    rw [hA] at hal
    have hne : ¬ (((r :: l).length : Nat) : Int) = 0 := by simp; omega
    have hpos : 0 < (r :: l).length := by simp
    generalize (r :: l).length = L at *
    generalize rows (r :: l) = RR at *
    refine call_P lp_ref04_Ring rfl (by simp [LV.pures, LV.pure]) (m1 := []) ?_ (by simp [LV.pures, LV.pure]) m
    simp only [Int.natCast_one] at hloop
    have r0' : RR[0]? = some (rlv (ci r)) := r0
    show _ = some (LV.tup [rlv (ci (List.foldl shorterD r l)), .int .i64 0], [])
    generalize rlv (ci r) = r1 at *
    generalize rlv (ci (List.foldl shorterD r l)) = r2 at *
    simp only [FN_eq] at hc hal ⊢
    simp only [ref04_Ring, ref04_Ring.B, exF_seq, exF_region, exF_block, exF_cond, exF_ret, exF_skip, runL, wantL, stepL, evL, evC, LEnv.at, putL, loadFine, loadL, cellsAt, Trk.putNew, Trk.up, Trk.touch, Trk.gives, Trk.calm, opdsOf, Trk.fresh, LEnv.keep, LEnv.ofFrom, List.map_cons, List.map_nil, nbeq, nble, nblt, ofAVs, bin_eql, bin_neq, natL_zero, List.any_cons, List.any_nil, Bool.or_false, Bool.or_true, Bool.and_true, Bool.false_and, Bool.not_true, Bool.not_false, Nat.reduceEqDiff, decide_true, decide_false, cond_true, cond_false, List.filter_nil, Nat.reduceAdd, Nat.reduceLeDiff, reduceCtorEq, List.length_nil, Nat.mul_one, eq_self, retL, resultsL, resAllL, resOfL, List.append_nil, List.nil_append, not_true_eq_false, ne_eq, List.drop_zero, lenL_lst, hc, hal, hne, hpos, r0', hloop]
theorem ringR_e (N : Int) (l : List (Int × Int)) (hl : l.length < 1000000) (h : chkF N l ≠ 0) (nl ex : Bool) (sz : Nat) (m : LMem) :
    clF LP n_ref04_Ring [.int .i64 N, FL nl ex sz l] m = some (.P, .tup [.lst true true 0 0 [], .int .i64 (chkF N l)], m) := by
  have hc := fun m => checkR_c nl ex sz N l hl m
  refine call_P lp_ref04_Ring rfl (by simp [LV.pures, LV.pure]) (m1 := []) ?_ rfl m
  simp only [ref04_Ring, ref04_Ring.B, exF_seq, exF_region, exF_cond, exF_ret, runL, wantL, stepL, evL, evC, LEnv.at, putL, loadFine, LEnv.keep, LEnv.ofFrom, List.map_cons, List.map_nil, nbeq, ofAVs, bin_neq, Nat.reduceEqDiff, decide_true, decide_false, cond_true, cond_false, Nat.reduceAdd, reduceCtorEq, eq_self, retL, resultsL, resAllL, resOfL, List.append_nil, List.nil_append, not_false_eq_true, ne_eq, hc, h]
/-- Both give the same ring. -/
theorem ring_both (N : Int) (l : List (Int × Int)) (hl : l.length < 1000000) (nl : Bool) : ∃ a b z x e, x.length < 1000000 ∧ (∀ m, clF LP n_ring_Ring [.int .i64 N, FL nl false 2 l] m = some (.P, .tup [IL a b z x, .int .i64 e], m)) ∧ (∀ m, clF LP n_ref04_Ring [.int .i64 N, FL nl false 2 l] m = some (.P, .tup [IL a b z x, .int .i64 e], m)) := by
  by_cases h : chkF N l = 0
  · obtain ⟨n, P, rfl, rfl, G⟩ := good_of h
    have h1 := ring_c G nl false 2
    have h2 := ringR_c' G nl false 2
    unfold ringV at h1 h2
    cases hm : minR P with
    | none =>
      rw [hm] at h1 h2
      exact ⟨true, true, 0, [], 13, by simp, h1, h2⟩
    | some r =>
      rw [hm] at h1 h2
      have := ((allR_mem G r).1 (minR_mem hm)).1
      have hB : Beg n P r := ⟨this.ne, this.lt, this.nd⟩
      exact ⟨false, false, 1, ci r, 0, by rw [ci_len]; have := hB.len G; omega, h1, h2⟩
  · exact ⟨true, true, 0, [], _, by simp, fun m => ring_e N l hl h nl false 2 m, fun m => ringR_e N l hl h nl false 2 m⟩

/-! ### Lists of the library -/
def idxI (x : Int) : List Int → Nat → Int
  | [], _ => -1
  | a :: r, k => if x = a then (k : Int) else idxI x r (k + 1)
theorem idxI_mem (x : Int) : ∀ (l : List Int) (k : Nat), (0 ≤ idxI x l k) ↔ x ∈ l
  | [], k => by simp [idxI]
  | a :: r, k => by
    rw [idxI]
    by_cases h : x = a
    · simp [h]
    · simp [h, idxI_mem x r (k + 1)]
theorem index_loop (nl ex : Bool) (sz : Nat) (l : List Int) (x : Int) (hl : l.length < 1000000) (n : Nat) : ∀ k, k + n = l.length →
    exF LP slices_Index_int_int.L0 [(0, IL nl ex sz l), (1, .int .i64 x), (7, .int .i64 (l.length : Int)), (8, .int .i64 (k : Int))] [] =
      if idxI x (l.drop k) k < 0 then some (.exit 0, [], []) else some (.ret, [(4, .int .i64 (idxI x (l.drop k) k))], []) := by
  induction n with
  | zero =>
    intro k hk
    rw [slices_Index_int_int.L0_eq]
    simp only [slices_Index_int_int.B0, exF_seq, exF_region, exF_cond, exF_exit, runL, wantL, stepL, evL, LEnv.at, putL, loadFine, LEnv.keep, List.map_cons, List.map_nil, nbeq, bin_lss, Nat.reduceEqDiff, decide_true, decide_false, cond_true, cond_false, reduceCtorEq, eq_self, show ¬ ((k : Int) < (l.length : Int)) by omega]
    simp [List.drop_eq_nil_of_le (show l.length ≤ k by omega), idxI]
  | succ n ih =>
    intro k hk
    have h2 : k < l.length := by omega
    rw [slices_Index_int_int.L0_eq, List.drop_eq_getElem_cons h2, idxI]
    have hn : ¬ ((k : Int) < 0) := by omega
    by_cases he : x = l[k]
    · simp only [slices_Index_int_int.B0, exF_seq, exF_region, exF_block, exF_cond, exF_ret, exF_skip, runL, wantL, stepL, evL, LEnv.at, putL, loadFine, loadL, cellsAt, Trk.putNew, Trk.up, Trk.touch, Trk.gives, Trk.calm, opdsOf, Trk.fresh, LEnv.keep, List.map_cons, List.map_nil, nbeq, nble, nblt, bin_eql, bin_lss, natL_nat, List.any_cons, List.any_nil, Bool.or_false, Bool.or_true, Bool.and_true, Bool.false_and, Bool.not_true, Bool.not_false, Nat.reduceEqDiff, decide_true, decide_false, cond_true, cond_false, List.filter_nil, Nat.reduceAdd, Nat.reduceLeDiff, reduceCtorEq, List.length_nil, Nat.mul_one, if_true, if_false, eq_self, show ((k : Int) < (l.length : Int)) by omega, h2, int_at _ _ _ h2, he, hn]
    · simp only [slices_Index_int_int.B0, exF_seq, exF_region, exF_block, exF_cond, exF_skip, runL, wantL, stepL, evL, evC, LEnv.at, putL, loadFine, loadL, cellsAt, Trk.putNew, Trk.up, Trk.touch, Trk.gives, Trk.calm, opdsOf, Trk.fresh, LEnv.keep, List.map_cons, List.map_nil, nbeq, nble, nblt, bin_add, bin_eql, bin_lss, natL_nat, List.any_cons, List.any_nil, Bool.or_false, Bool.or_true, Bool.and_true, Bool.false_and, Bool.not_true, Bool.not_false, Nat.reduceEqDiff, decide_true, decide_false, cond_true, cond_false, List.filter_nil, Nat.reduceAdd, Nat.reduceLeDiff, reduceCtorEq, List.length_nil, Nat.mul_one, if_false, eq_self, show ((k : Int) < (l.length : Int)) by omega, h2, int_at _ _ _ h2, he, wrap_succ (show k + 1 < 9223372036854775808 by omega), ih (k + 1) (by omega)]
theorem index_c (nl ex : Bool) (sz : Nat) (l : List Int) (x : Int) (hl : l.length < 1000000) (m : LMem) : clF LP n_slices_Index_int_int [IL nl ex sz l, .int .i64 x] m = some (.P, .int .i64 (idxI x l 0), m) := by
  refine call_P lp_slices_Index_int_int rfl (by simp [LV.pures, LV.pure]) (m1 := []) ?_ rfl m
  have h := index_loop nl ex sz l x hl l.length 0 (by omega)
  simp only [Int.natCast_zero, List.drop_zero] at h
  by_cases hc : idxI x l 0 < 0
  · have : idxI x l 0 = -1 := by
      have : ∀ (l : List Int) (k : Nat), idxI x l k < 0 → idxI x l k = -1 := by
        intro l
        induction l with
        | nil => intro k _; rfl
        | cons a r ih => intro k h; rw [idxI] at h ⊢; split at h <;> rename_i c <;> simp only [c, if_true, if_false] at * <;> first | omega | exact ih _ h
      exact this l 0 hc
    simp only [slices_Index_int_int, slices_Index_int_int.B, exF_seq, exF_region, exF_block, exF_ret, runL, wantL, stepL, evL, evC, LEnv.at, putL, loadFine, LEnv.keep, LEnv.ofFrom, List.map_cons, List.map_nil, nbeq, lenL, Nat.reduceEqDiff, decide_true, decide_false, cond_true, cond_false, Nat.reduceAdd, reduceCtorEq, if_true, eq_self, retL, resultsL, resAllL, resOfL, h, hc]
    rw [this]
  · simp only [slices_Index_int_int, slices_Index_int_int.B, exF_seq, exF_region, exF_block, runL, wantL, stepL, evL, evC, LEnv.at, putL, loadFine, LEnv.keep, LEnv.ofFrom, List.map_cons, List.map_nil, nbeq, lenL, Nat.reduceEqDiff, decide_true, decide_false, cond_true, cond_false, Nat.reduceAdd, reduceCtorEq, if_false, eq_self, retL, resultsL, resAllL, resOfL, h, hc]
theorem contains_c (nl ex : Bool) (sz : Nat) (l : List Int) (x : Int) (hl : l.length < 1000000) (m : LMem) : clF LP n_slices_Contains_int_int [IL nl ex sz l, .int .i64 x] m = some (.P, .bool (decide (x ∈ l)), m) := by
  refine call_P lp_slices_Contains_int_int rfl (by simp [LV.pures, LV.pure]) (m1 := []) ?_ rfl m
  have h := fun m => index_c nl ex sz l x hl m
  have h2 := idxI_mem x l 0
  simp only [slices_Contains_int_int, slices_Contains_int_int.B, exF_seq, exF_region, exF_ret, runL, wantL, stepL, evL, evC, LEnv.at, putL, loadFine, LEnv.keep, LEnv.ofFrom, List.map_cons, List.map_nil, nbeq, ofAVs, bin_geq, Nat.reduceEqDiff, decide_true, decide_false, cond_true, cond_false, Nat.reduceAdd, reduceCtorEq, eq_self, retL, resultsL, resAllL, resOfL, List.append_nil, List.nil_append, h]
  rw [decide_eq_decide.2 h2]
def minF (x y : Int) : Int := if y < x then y else x
theorem min_loop (nl ex : Bool) (sz : Nat) (l : List Int) (hl : l.length < 1000000) (n : Nat) : ∀ (k : Nat) (x : Int), k + n = l.length →
    exF LP slices_Min_int_int.L0 [(0, IL nl ex sz l), (3, .int .i64 x), (4, .int .i64 (k : Int))] [] = some (.exit 0, [(3, .int .i64 ((l.drop k).foldl minF x))], []) := by
  induction n with
  | zero =>
    intro k x hk
    rw [slices_Min_int_int.L0_eq, List.drop_eq_nil_of_le (by omega)]
    simp only [slices_Min_int_int.B0, exF_seq, exF_region, exF_cond, exF_exit, runL, wantL, stepL, evL, LEnv.at, putL, loadFine, LEnv.keep, List.map_cons, List.map_nil, nbeq, lenL, bin_lss, Nat.reduceEqDiff, decide_true, decide_false, cond_true, cond_false, reduceCtorEq, eq_self, show ¬ ((k : Int) < (l.length : Int)) by omega, List.foldl_nil]
  | succ n ih =>
    intro k x hk
    have h2 : k < l.length := by omega
    have ih := ih (k + 1) (minF x l[k]) (by omega)
    rw [slices_Min_int_int.L0_eq, List.drop_eq_getElem_cons h2, List.foldl_cons]
    simp only [minF] at ih ⊢
    simp only [slices_Min_int_int.B0, exF_seq, exF_region, exF_block, exF_cond, exF_skip, runL, wantL, stepL, evL, evC, LEnv.at, putL, loadFine, loadL, cellsAt, Trk.putNew, Trk.up, Trk.touch, Trk.gives, Trk.calm, opdsOf, Trk.fresh, LEnv.keep, List.map_cons, List.map_nil, nbeq, nble, nblt, lenL, bin_add, bin_lss, natL_nat, List.any_cons, List.any_nil, Bool.or_false, Bool.or_true, Bool.and_true, Bool.false_and, Bool.not_true, Bool.not_false, Nat.reduceEqDiff, decide_true, decide_false, cond_true, cond_false, List.filter_nil, Nat.reduceAdd, Nat.reduceLeDiff, reduceCtorEq, List.length_nil, Nat.mul_one, eq_self, foldIntL, kind_beq, show ((k : Int) < (l.length : Int)) by omega, h2, int_at _ _ _ h2, wrap_succ (show k + 1 < 9223372036854775808 by omega), ih]
theorem min_c (nl ex : Bool) (sz : Nat) (a : Int) (l : List Int) (hl : (a :: l).length < 1000000) (m : LMem) : clF LP n_slices_Min_int_int [IL nl ex sz (a :: l)] m = some (.P, .int .i64 (l.foldl minF a), m) := by
  refine call_P lp_slices_Min_int_int rfl (by simp [LV.pures, LV.pure]) (m1 := []) ?_ rfl m
  have h := min_loop nl ex sz (a :: l) hl l.length 1 a (by simp; omega)
  rw [List.drop_succ_cons, List.drop_zero] at h
  simp only [Int.natCast_one] at h
  have h1 : ¬ ((((a :: l).length : Nat) : Int) < 1) := by simp; omega
  have h2 : 0 < (a :: l).length := by simp
  have h3 : ((a :: l).map (LV.int .i64))[0]? = some (.int .i64 a) := rfl
  simp only [IL] at h ⊢
  generalize (a :: l).map (LV.int .i64) = row at *
  generalize (a :: l).length = L at *
  simp only [slices_Min_int_int, slices_Min_int_int.B, exF_seq, exF_region, exF_block, exF_cond, exF_ret, exF_skip, runL, wantL, stepL, evL, evC, LEnv.at, putL, loadFine, loadL, cellsAt, Trk.putNew, Trk.up, Trk.touch, Trk.gives, Trk.calm, opdsOf, Trk.fresh, LEnv.keep, LEnv.ofFrom, List.map_cons, List.map_nil, nbeq, nble, nblt, lenL, bin_lss, natL_zero, List.any_cons, List.any_nil, Bool.or_false, Bool.or_true, Bool.and_true, Bool.false_and, Bool.not_true, Bool.not_false, Nat.reduceEqDiff, decide_true, decide_false, cond_true, cond_false, List.filter_nil, Nat.reduceAdd, Nat.reduceLeDiff, reduceCtorEq, List.length_nil, Nat.mul_one, eq_self, retL, resultsL, resAllL, resOfL, List.drop_zero, h1, h2, h3, h]
theorem minF_le : ∀ (l : List Int) (a : Int), l.foldl minF a ≤ a ∧ ∀ x ∈ l, l.foldl minF a ≤ x
  | [], a => by simp
  | b :: l, a => by
    have h1 : minF a b ≤ a ∧ minF a b ≤ b := by unfold minF; split <;> omega
    obtain ⟨h2, h3⟩ := minF_le l (minF a b)
    rw [List.foldl_cons]
    refine ⟨by omega, fun x hx => ?_⟩
    rcases List.mem_cons.1 hx with rfl | hx
    · omega
    · exact h3 x hx
theorem minF_eq (l : List Int) (a : Int) : l.foldl minF a = a ↔ ∀ x ∈ l, a ≤ x := by
  constructor
  · intro h x hx
    have := (minF_le l a).2 x hx
    omega
  · intro h
    have key : ∀ (l : List Int), (∀ x ∈ l, a ≤ x) → l.foldl minF a = a := by
      intro l
      induction l with
      | nil => intro _; rfl
      | cons b l ih =>
        intro h
        have : minF a b = a := by
          have := h b (by simp)
          unfold minF; rw [if_neg (by omega)]
        rw [List.foldl_cons, this]
        exact ih fun x hx => h x (by simp [hx])
    exact key l h
end Go.Am.Ring

