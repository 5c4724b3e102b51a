import Derived.Test.YtcckhkcchpfdoaaShareD17
import Derived.Test.YtcckhkcchpfdoaaShareC21
import Derived.Test.YtcckhkcchpfdoaaShareD16
import Derived.Test.YtcckhkcchpfdoaaLm10
import Derived.Test.YtcckhkcchpfdoaaAm17
import Derived.Below
import Derived.ChangeSlices
import Derived.Deep.Matrix
import Derived.OpenShut
import Derived.Carry
/-
  What functions of chapter 07 compute, outright 20: the law 'ShareRings': rings are turned.
-/
set_option linter.unusedVariables false
set_option linter.unusedSimpArgs false
set_option maxRecDepth 10000
set_option maxHeartbeats 400000
namespace Go.Am.Share
open Go.Am.G

theorem list_c (nl ex : Bool) (sz : Nat) (l : List Int) (m : LMem) : clF LP n_law07_list [IL nl ex sz l] m = some (.P, IL nl ex sz l, m) := by
  refine call_P lp_law07_list rfl (by simp [LV.pures, LV.pure, pures_int]) (m1 := []) ?_ (by simp [LV.pure]) m
  simp only [law07_list, law07_list.B, beqT, beqF, exF_seq, exF_region, exF_block, exF_cond, exF_ret, exF_exit, exF_skip, runL, wantL, stepL, evL, evC, LEnv.at, putL, loadFine, loadL, cellsAt, Trk.putNew, Trk.up, Trk.touch, Trk.gives, Trk.calm, Trk.hit, opdsOf, Trk.fresh, LEnv.keep, LEnv.ofFrom, List.map_cons, List.map_nil, nbeq, nble, nblt, ofAV, ofAVs, lenL, bin_add, bin_sub, bin_mul, bin_eql, bin_neq, bin_lss, bin_leq, bin_gtr, bin_geq, natL_nat, natL_zero, natL_one, natL_two, Nat.zero_mul, List.any_cons, List.any_nil, Bool.or_false, Bool.false_or, Bool.true_or, Bool.or_true, Bool.and_true, Bool.true_and, Bool.and_false, Bool.false_and, Bool.not_true, Bool.not_false, Nat.reduceBEq, Nat.reduceEqDiff, decide_true, decide_false, cond_true, cond_false, List.filter_nil, List.filter_cons, Nat.reduceAdd, Nat.reduceLeDiff, reduceCtorEq, List.length_nil, List.length_cons, Nat.mul_one, if_true, if_false, Bool.false_eq_true, eq_self, and_true, true_and, retL, resultsL, resAllL, resOfL, List.append_nil, List.nil_append, List.cons_append, true_or, or_true, false_or, or_false, false_and, and_false, not_true_eq_false, not_false_eq_true, ne_eq, unL, trim_nil, views_pures, LV.pures, LV.pure, freeze, Nat.reduceDiv, Int.reduceEq, Int.reduceLT, Int.reduceLE, Int.natCast_zero, LV.cells, allocL, List.getElem?_cons_zero, List.getElem?_cons_succ, storeL, spliceL, List.take_zero, List.take_succ_cons, List.drop_zero, List.drop_succ_cons, List.drop_nil, List.take_nil, Nat.le_refl, Nat.reduceMul, List.set_cons_zero, List.set_cons_succ, LV.scalar, List.all_cons, List.all_nil, Nat.lt_add_one, Nat.zero_lt_one, Nat.reduceLT, Nat.lt_irrefl, fillL, List.length_append, foldIntL, kind_beq, pures_int, solids_int, plains_int, unders_int, scalars_int]

/-! ### A walk that began as a list of one number, behind other memory -/
def GWb (P : LMem) (l : List Int) : LV := if l.length = 1 then .lst false true 1 1 (ints l) else .sl P.length 0 l.length l.length 1 1 l.length
def GWbm (l : List Int) : LMem := if l.length = 1 then [] else [⟨ints l, true⟩]
theorem views_gwb (P : LMem) (l : List Int) (x : Int) : ∃ nl ex ids, views (P ++ GWbm l) [GWb P l, .int .i64 x] = some ([IL nl ex 1 l, .int .i64 x], ids) := by
  by_cases h : l.length = 1
  · refine ⟨false, true, [], ?_⟩
    simp only [GWb, GWbm, if_pos h]
    rw [views_pures _ _ (by simp [LV.pures, LV.pure, pures_int])]
    simp [h]
  · refine ⟨false, (Nat.beq 1 0 && Nat.beq l.length l.length), [P.length], ?_⟩
    simp only [GWb, GWbm, if_neg h]
    have hb : (P ++ [(⟨ints l, true⟩ : LBlk)])[P.length]? = some ⟨l.map (LV.int .i64), true⟩ := by simp
    have := views_two 32 (P ++ [(⟨ints l, true⟩ : LBlk)]) _ (.int .i64 x) _ _ (fun k => view_sl k (P ++ [(⟨ints l, true⟩ : LBlk)]) P.length 0 l.length l.length 1 l true hb rfl (by omega) l.length (by omega)) rfl (by simp [LV.pures, LV.pure])
    rw [List.drop_zero, List.take_length] at this
    exact this
theorem contains_w (P : LMem) (l : List Int) (hl : l.length < 1000000) (x : Int) : clF LP n_slices_Contains_int_int [GWb P l, .int .i64 x] (P ++ GWbm l) = some (.P, .bool (decide (x ∈ l)), P ++ GWbm l) := by
  obtain ⟨nl, ex, ids, h⟩ := views_gwb P l x
  exact call_view lp_slices_Contains_int_int rfl h (by simp [LV.pures, LV.pure]) (contains_c _ _ _ l x hl []) rfl
theorem append_wb (P : LMem) (l : List Int) (x : Int) (h0 : 0 < l.length) (h : l.length < 1000000) : appendL (P ++ GWbm l) 1 8 (GWb P l) (.lst false true 1 1 [.int .i64 x]) = some (GWb P (l ++ [x]), P ++ GWbm (l ++ [x])) := by
  by_cases h1 : l.length = 1
  · have h2 : ¬ (l ++ [x]).length = 1 := by rw [List.length_append]; simp only [List.length_cons, List.length_nil]; omega
    simp only [GWb, GWbm, if_pos h1, if_neg h2]
    simp [appendL, contents, h1, nbeq, nble, roomMost, newSl, LV.scalar, scalars_int]
  · have h2 : ¬ (l ++ [x]).length = 1 := by rw [List.length_append]; simp only [List.length_cons, List.length_nil]; omega
    have hne : l ≠ [] := by intro c; subst c; simp at h0
    have := append_grow P l x true h
    have e1 : GV P.length l = GWb P l := by simp [GV, GWb, hne, h1]
    have e2 : GM l = GWbm l := by simp [GM, GWbm, hne, h1]
    have e3 : GV P.length (l ++ [x]) = GWb P (l ++ [x]) := by simp only [GWb, if_neg h2]; simp [GV]
    have e4 : GM (l ++ [x]) = GWbm (l ++ [x]) := by simp only [GWbm, if_neg h2]; simp [GM]
    rw [e1, e2, e3, e4] at this
    exact this
theorem RMem.app {m : LMem} {VV : LV} {L : Nat} {o : List Int} (R : RMem m VV L o) (X : LMem) : RMem (m ++ X) VV L o := by
  have h3 := (List.getElem?_eq_some_iff.1 R.h3).1
  exact ⟨by rw [List.getElem?_append_left (by omega)]; exact R.h1, by rw [List.getElem?_append_left (by omega)]; exact R.h2, by rw [List.getElem?_append_left h3]; exact R.h3⟩
theorem rgwalk_loop (nl ex : Bool) (sz : Nat) {rs : List Row} {o : List Int} (D : LOk rs o) (hc : calmI (vals rs) o = -1) (P : LMem) {L : Nat} (R : RMem P (VL nl ex sz rs) L o) (ho : o.length = L) (K A B : LV) (n : Nat) : ∀ (l : List Int) (w : Int), l ≠ [] → WOk (fun x => enI (vals rs) o x.toNat) rs.length l w → rs.length + 1 ≤ l.length + n →
    exF LP law07_ShareRings.L0 [(3, .ptr 1 0 1), (4, .ptr 3 0 1), (5, K), (7, GWb P l), (8, .int .i64 w), (31, A), (32, B)] (P ++ GWbm l) =
      some (.exit 4, [(3, .ptr 1 0 1), (4, .ptr 3 0 1), (5, K), (7, GWb P (wlk (fun x => enI (vals rs) o x.toNat) n l w).1), (8, .int .i64 (wlk (fun x => enI (vals rs) o x.toNat) n l w).2), (31, A), (32, B)], P ++ GWbm (wlk (fun x => enI (vals rs) o x.toNat) n l w).1) := by
  have h4 := D.le4
  have hrng := en_rng hc
  rw [vals_length] at hrng
  induction n with
  | zero =>
    intro l w hne H hn
    have := nodup_le rs.length l H.nd H.rng
    omega
  | succ n ih =>
    intro l w hne H hn
    have hlen := nodup_le rs.length l H.nd H.rng
    have hcm := contains_w P l (by omega) w
    rw [law07_ShareRings.L0_eq, wlk]
    by_cases hw : w ∈ l
    · rw [if_pos hw]
      rw [decide_eq_true hw] at hcm
      generalize GWb P l = g1 at *
      generalize P ++ GWbm l = M1 at *
      simp only [law07_ShareRings.B0, beqT, beqF, exF_seq, exF_region, exF_block, exF_cond, exF_ret, exF_exit, exF_skip, runL, wantL, stepL, evL, evC, LEnv.at, putL, loadFine, loadL, cellsAt, Trk.putNew, Trk.up, Trk.touch, Trk.gives, Trk.calm, Trk.hit, opdsOf, Trk.fresh, LEnv.keep, LEnv.ofFrom, List.map_cons, List.map_nil, nbeq, nble, nblt, ofAV, ofAVs, lenL, bin_add, bin_sub, bin_mul, bin_eql, bin_neq, bin_lss, bin_leq, bin_gtr, bin_geq, natL_nat, natL_zero, natL_one, natL_two, Nat.zero_mul, List.any_cons, List.any_nil, Bool.or_false, Bool.false_or, Bool.true_or, Bool.or_true, Bool.and_true, Bool.true_and, Bool.and_false, Bool.false_and, Bool.not_true, Bool.not_false, Nat.reduceBEq, Nat.reduceEqDiff, decide_true, decide_false, cond_true, cond_false, List.filter_nil, List.filter_cons, Nat.reduceAdd, Nat.reduceLeDiff, reduceCtorEq, List.length_nil, List.length_cons, Nat.mul_one, if_true, if_false, Bool.false_eq_true, eq_self, and_true, true_and, retL, resultsL, resAllL, resOfL, List.append_nil, List.nil_append, List.cons_append, true_or, or_true, false_or, or_false, false_and, and_false, not_true_eq_false, not_false_eq_true, ne_eq, unL, trim_nil, views_pures, LV.pures, LV.pure, freeze, Nat.reduceDiv, Int.reduceEq, Int.reduceLT, Int.reduceLE, Int.natCast_zero, LV.cells, allocL, List.getElem?_cons_zero, List.getElem?_cons_succ, storeL, spliceL, List.take_zero, List.take_succ_cons, List.drop_zero, List.drop_succ_cons, List.drop_nil, List.take_nil, Nat.le_refl, Nat.reduceMul, List.set_cons_zero, List.set_cons_succ, LV.scalar, List.all_cons, List.all_nil, Nat.lt_add_one, Nat.zero_lt_one, Nat.reduceLT, Nat.lt_irrefl, fillL, foldIntL, kind_beq, pures_int, solids_int, plains_int, unders_int, scalars_int, hcm]
    · rw [if_neg hw]
      rw [decide_eq_false hw] at hcm
      have ih := ih (l ++ [w]) _ (by simp) (H.step hrng hw) (by simp; omega)
      have ha := append_wb P l w (List.length_pos_iff.2 hne) (by omega)
      have R2 := R.app (GWbm (l ++ [w]))
      have he := lenemy_m nl ex sz D R2 ho w.toNat (by have := H.w0; omega)
      rw [Int.toNat_of_nonneg H.w0.1] at he
      rw [← ih]
      have g1 := R2.h1
      have g3 := R2.h3
      generalize GWb P l = v1 at *
      generalize P ++ GWbm l = M1 at *
      generalize GWb P (l ++ [w]) = v2 at *
      generalize P ++ GWbm (l ++ [w]) = M2 at *
      generalize VL nl ex sz rs = VV at *
      simp only [law07_ShareRings.B0, beqT, beqF, exF_seq, exF_region, exF_block, exF_cond, exF_ret, exF_exit, exF_skip, runL, wantL, stepL, evL, evC, LEnv.at, putL, loadFine, loadL, cellsAt, Trk.putNew, Trk.up, Trk.touch, Trk.gives, Trk.calm, Trk.hit, opdsOf, Trk.fresh, LEnv.keep, LEnv.ofFrom, List.map_cons, List.map_nil, nbeq, nble, nblt, ofAV, ofAVs, lenL, bin_add, bin_sub, bin_mul, bin_eql, bin_neq, bin_lss, bin_leq, bin_gtr, bin_geq, natL_nat, natL_zero, natL_one, natL_two, Nat.zero_mul, List.any_cons, List.any_nil, Bool.or_false, Bool.false_or, Bool.true_or, Bool.or_true, Bool.and_true, Bool.true_and, Bool.and_false, Bool.false_and, Bool.not_true, Bool.not_false, Nat.reduceBEq, Nat.reduceEqDiff, decide_true, decide_false, cond_true, cond_false, List.filter_nil, List.filter_cons, Nat.reduceAdd, Nat.reduceLeDiff, reduceCtorEq, List.length_nil, List.length_cons, Nat.mul_one, if_true, if_false, Bool.false_eq_true, eq_self, and_true, true_and, retL, resultsL, resAllL, resOfL, List.append_nil, List.nil_append, List.cons_append, true_or, or_true, false_or, or_false, false_and, and_false, not_true_eq_false, not_false_eq_true, ne_eq, unL, trim_nil, views_pures, LV.pures, LV.pure, freeze, Nat.reduceDiv, Int.reduceEq, Int.reduceLT, Int.reduceLE, Int.natCast_zero, LV.cells, allocL, List.getElem?_cons_zero, List.getElem?_cons_succ, storeL, spliceL, List.take_zero, List.take_succ_cons, List.drop_zero, List.drop_succ_cons, List.drop_nil, List.take_nil, Nat.le_refl, Nat.reduceMul, List.set_cons_zero, List.set_cons_succ, LV.scalar, List.all_cons, List.all_nil, Nat.lt_add_one, Nat.zero_lt_one, Nat.reduceLT, Nat.lt_irrefl, fillL, foldIntL, kind_beq, pures_int, solids_int, plains_int, unders_int, scalars_int, hcm, ha, he, g1, g3]

/-! ### Owners are replaced -/
def GMo (P : LMem) (l c : List Int) : LMem := P.set 2 ⟨ints c, true⟩ ++ [⟨ints l, true⟩]
theorem gmo_mem {P : LMem} {VV : LV} {L : Nat} {o : List Int} (R : RMem P VV L o) (l c : List Int) : RMem (GMo P l c) VV L c ∧ (GMo P l c)[P.length]? = some ⟨ints l, true⟩ ∧ ∀ y, (GMo P l c).set 2 ⟨ints y, true⟩ = GMo P l y := by
  have h3 := (List.getElem?_eq_some_iff.1 R.h3).1
  unfold GMo
  refine ⟨RMem.app ⟨?_, ?_, ?_⟩ _, ?_, fun y => ?_⟩
  · rw [List.getElem?_set_ne (by omega)]; exact R.h1
  · rw [List.getElem?_set_self (by omega)]
  · rw [List.getElem?_set_ne (by omega)]; exact R.h3
  · rw [List.getElem?_append_right (by simp)]; simp
  · rw [List.set_append_left _ _ (by simp; omega), List.set_set]
theorem rggive_loop {P : LMem} {VV : LV} {L : Nat} {o : List Int} (R : RMem P VV L o) (hL : L ≤ 6) (K A B : LV) (l : List Int) (hll : l.length ≤ 100) (p n : Nat) (hp : p + n = l.length) (hn : 0 < n) (r : Nat) : ∀ (k : Nat) (c : List Int), k + r = L → c.length = L →
    exF LP law07_ShareRings.L1 [(3, .ptr 1 0 1), (4, .ptr 3 0 1), (5, K), (9, .sl P.length p n n 1 1 l.length), (31, A), (32, B), (63, SLo 2 L), (64, .int .i64 (L : Int)), (65, .int .i64 (k : Int))] (GMo P l c) =
      some (.exit 6, [(3, .ptr 1 0 1), (4, .ptr 3 0 1), (5, K), (31, A), (32, B)], GMo P l (mapFrom (nxI (l.drop p)) r k c)) := by
  induction r with
  | zero =>
    intro k c hk hc
    rw [law07_ShareRings.L1_eq]
    simp only [law07_ShareRings.B1, beqT, beqF, exF_seq, exF_region, exF_block, exF_cond, exF_ret, exF_exit, exF_skip, runL, wantL, stepL, evL, evC, LEnv.at, putL, loadFine, loadL, cellsAt, Trk.putNew, Trk.up, Trk.touch, Trk.gives, Trk.calm, Trk.hit, opdsOf, Trk.fresh, LEnv.keep, LEnv.ofFrom, List.map_cons, List.map_nil, nbeq, nble, nblt, ofAV, ofAVs, lenL, bin_add, bin_sub, bin_mul, bin_eql, bin_neq, bin_lss, bin_leq, bin_gtr, bin_geq, natL_nat, natL_zero, natL_one, natL_two, Nat.zero_mul, List.any_cons, List.any_nil, Bool.or_false, Bool.false_or, Bool.true_or, Bool.or_true, Bool.and_true, Bool.true_and, Bool.and_false, Bool.false_and, Bool.not_true, Bool.not_false, Nat.reduceBEq, Nat.reduceEqDiff, decide_true, decide_false, cond_true, cond_false, List.filter_nil, List.filter_cons, Nat.reduceAdd, Nat.reduceLeDiff, reduceCtorEq, List.length_nil, List.length_cons, Nat.mul_one, if_true, if_false, Bool.false_eq_true, eq_self, and_true, true_and, retL, resultsL, resAllL, resOfL, List.append_nil, List.nil_append, List.cons_append, true_or, or_true, false_or, or_false, false_and, and_false, not_true_eq_false, not_false_eq_true, ne_eq, unL, trim_nil, views_pures, LV.pures, LV.pure, freeze, Nat.reduceDiv, Int.reduceEq, Int.reduceLT, Int.reduceLE, Int.natCast_zero, LV.cells, allocL, List.getElem?_cons_zero, List.getElem?_cons_succ, storeL, spliceL, List.take_zero, List.take_succ_cons, List.drop_zero, List.drop_succ_cons, List.drop_nil, List.take_nil, Nat.le_refl, Nat.reduceMul, List.set_cons_zero, List.set_cons_succ, LV.scalar, List.all_cons, List.all_nil, Nat.lt_add_one, Nat.zero_lt_one, Nat.reduceLT, Nat.lt_irrefl, fillL, List.length_append, foldIntL, kind_beq, pures_int, solids_int, plains_int, unders_int, scalars_int, show ¬ ((k : Int) < (L : Int)) by omega, mapFrom]
  | succ r ih =>
    intro k c hk hc
    have h2 : k < c.length := by omega
    have h3 : k < L := by omega
    have hx : c.getD k 0 = c[k] := by simp [List.getD_eq_getElem?_getD, h2]
    obtain ⟨R1, gl, gs⟩ := gmo_mem R l c
    have hi := index_m (m := GMo P l c) (i := P.length) (p := p) (n := n) (g := 1) (b := true) (cs := l) gl rfl (by omega) (by omega) c[k]
    rw [take_drop_all l p n hp, idxI_eq] at hi
    have g2 := R1.h2
    have g3 := R1.h3
    have hcl : (ints c).length = L := by simp [hc]
    have hn2 : ¬ (GMo P l c).length ≤ 2 := by have := (List.getElem?_eq_some_iff.1 g2).1; omega
    have hn3 : ¬ (GMo P l c).length ≤ 3 := by have := (List.getElem?_eq_some_iff.1 g3).1; omega
    have hnP : ¬ (GMo P l c).length ≤ P.length := by have := (List.getElem?_eq_some_iff.1 gl).1; omega
    rw [law07_ShareRings.L1_eq, mapFrom, hx]
    by_cases hm : c[k] ∈ l.drop p
    · rw [if_pos hm] at hi
      have hj : (l.drop p).idxOf c[k] < n := by
        have := idx_lt hm
        simp at this; omega
      have hnx := nx_in hp hn hm
      rw [hnx]
      generalize (l.drop p).idxOf c[k] = j at *
      have hq : (j + 1) % n < n := Nat.mod_lt _ hn
      have hq2 : p + (j + 1) % n < l.length := by omega
      have hv : l.getD (p + (j + 1) % n) 0 = l[p + (j + 1) % n] := by simp [List.getD_eq_getElem?_getD, hq2]
      have ih := ih (k + 1) (c.set k (l.getD (p + (j + 1) % n) 0)) (by omega) (by simpa using hc)
      have gs := gs (c.set k (l.getD (p + (j + 1) % n) 0))
      rw [hv] at ih ⊢ gs
      have hne : ((n : Nat) : Int) ≠ 0 := by omega
      have hge : (0 : Int) ≤ (j : Int) := by omega
      rw [Nat.zero_add] at hi
      have hll2 : (ints l).length = l.length := by simp
      rw [← ih]
      generalize GMo P l c = M1 at *
      generalize GMo P l (c.set k l[p + (j + 1) % n]) = M2 at *
      simp only [law07_ShareRings.B1, law07_ShareRings.B1.R0, beqT, beqF, exF_seq, exF_region, exF_block, exF_cond, exF_ret, exF_exit, exF_skip, runL, wantL, stepL, evL, evC, LEnv.at, putL, loadFine, loadL, cellsAt, Trk.putNew, Trk.up, Trk.touch, Trk.gives, Trk.calm, Trk.hit, opdsOf, Trk.fresh, LEnv.keep, LEnv.ofFrom, List.map_cons, List.map_nil, nbeq, nble, nblt, ofAV, ofAVs, lenL, bin_add, bin_sub, bin_mul, bin_eql, bin_neq, bin_lss, bin_leq, bin_gtr, bin_geq, natL_nat, natL_zero, natL_one, natL_two, Nat.zero_mul, List.any_cons, List.any_nil, Bool.or_false, Bool.false_or, Bool.true_or, Bool.or_true, Bool.and_true, Bool.true_and, Bool.and_false, Bool.false_and, Bool.not_true, Bool.not_false, Nat.reduceBEq, Nat.reduceEqDiff, decide_true, decide_false, cond_true, cond_false, List.filter_nil, List.filter_cons, Nat.reduceAdd, Nat.reduceLeDiff, reduceCtorEq, List.length_nil, List.length_cons, Nat.mul_one, if_true, if_false, Bool.false_eq_true, eq_self, and_true, true_and, retL, resultsL, resAllL, resOfL, List.append_nil, List.nil_append, List.cons_append, true_or, or_true, false_or, or_false, false_and, and_false, not_true_eq_false, not_false_eq_true, ne_eq, unL, trim_nil, views_pures, LV.pures, LV.pure, freeze, Nat.reduceDiv, Int.reduceEq, Int.reduceLT, Int.reduceLE, Int.natCast_zero, LV.cells, allocL, List.getElem?_cons_zero, List.getElem?_cons_succ, storeL, spliceL, List.take_zero, List.take_succ_cons, List.drop_zero, List.drop_succ_cons, List.drop_nil, List.take_nil, Nat.le_refl, Nat.reduceMul, List.set_cons_zero, List.set_cons_succ, LV.scalar, List.all_cons, List.all_nil, Nat.lt_add_one, Nat.zero_lt_one, Nat.reduceLT, Nat.lt_irrefl, fillL, List.length_append, foldIntL, kind_beq, pures_int, solids_int, plains_int, unders_int, scalars_int, show ((k : Int) < (L : Int)) by omega, h2, h3, hc, int_at _ _ _ h2, Nat.zero_add, List.length_map, hi, hge, wrap_succ (show j + 1 < 9223372036854775808 by omega), bin_rem _ _ _ hne, tmod_nat, hq, hq2, int_at _ _ _ hq2, set_int _ _ _ _ h2, show k + 1 ≤ L by omega, wrap_succ (show k + 1 < 9223372036854775808 by omega), g2, g3, gl, gs, hn2, hn3, hnP, ge_iff_le]
    · rw [if_neg hm] at hi
      have hnx : nxI (l.drop p) c[k] = c[k] := by unfold nxI; rw [if_neg hm]
      rw [hnx, List.set_getElem_self]
      have ih := ih (k + 1) c (by omega) hc
      rw [← ih]
      generalize GMo P l c = M1 at *
      simp only [law07_ShareRings.B1, beqT, beqF, exF_seq, exF_region, exF_block, exF_cond, exF_ret, exF_exit, exF_skip, runL, wantL, stepL, evL, evC, LEnv.at, putL, loadFine, loadL, cellsAt, Trk.putNew, Trk.up, Trk.touch, Trk.gives, Trk.calm, Trk.hit, opdsOf, Trk.fresh, LEnv.keep, LEnv.ofFrom, List.map_cons, List.map_nil, nbeq, nble, nblt, ofAV, ofAVs, lenL, bin_add, bin_sub, bin_mul, bin_eql, bin_neq, bin_lss, bin_leq, bin_gtr, bin_geq, natL_nat, natL_zero, natL_one, natL_two, Nat.zero_mul, List.any_cons, List.any_nil, Bool.or_false, Bool.false_or, Bool.true_or, Bool.or_true, Bool.and_true, Bool.true_and, Bool.and_false, Bool.false_and, Bool.not_true, Bool.not_false, Nat.reduceBEq, Nat.reduceEqDiff, decide_true, decide_false, cond_true, cond_false, List.filter_nil, List.filter_cons, Nat.reduceAdd, Nat.reduceLeDiff, reduceCtorEq, List.length_nil, List.length_cons, Nat.mul_one, if_true, if_false, Bool.false_eq_true, eq_self, and_true, true_and, retL, resultsL, resAllL, resOfL, List.append_nil, List.nil_append, List.cons_append, true_or, or_true, false_or, or_false, false_and, and_false, not_true_eq_false, not_false_eq_true, ne_eq, unL, trim_nil, views_pures, LV.pures, LV.pure, freeze, Nat.reduceDiv, Int.reduceEq, Int.reduceLT, Int.reduceLE, Int.natCast_zero, LV.cells, allocL, List.getElem?_cons_zero, List.getElem?_cons_succ, storeL, spliceL, List.take_zero, List.take_succ_cons, List.drop_zero, List.drop_succ_cons, List.drop_nil, List.take_nil, Nat.le_refl, Nat.reduceMul, List.set_cons_zero, List.set_cons_succ, LV.scalar, List.all_cons, List.all_nil, Nat.lt_add_one, Nat.zero_lt_one, Nat.reduceLT, Nat.lt_irrefl, fillL, List.length_append, foldIntL, kind_beq, pures_int, solids_int, plains_int, unders_int, scalars_int, show ((k : Int) < (L : Int)) by omega, h2, h3, hc, int_at _ _ _ h2, Nat.zero_add, List.length_map, hi, wrap_succ (show k + 1 < 9223372036854775808 by omega), g2, g3, hn2, hn3, hnP, ge_iff_le]
end Go.Am.Share

/-
  What functions of chapter 07 compute, outright 21: the law 'ShareRings': until somebody is not envied.
-/
set_option linter.unusedVariables false
set_option linter.unusedSimpArgs false
set_option maxRecDepth 10000
set_option maxHeartbeats 400000
namespace Go.Am.Share
open Go.Am.G

theorem LOk.turn {rs : List Row} {o : List Int} (D : LOk rs o) (hc : calmI (vals rs) o = -1) : LOk rs (turnI (vals rs) o) := by
  have hl := turnI_length (vals rs) o
  have hR := ringI_ok (by rw [vals_length]; exact D.pos) hc
  refine ⟨D.pos, D.le4, fun i hi => by rw [hl]; exact D.len i hi, D.ok, by rw [hl]; exact D.le6, fun x hx => ?_⟩
  unfold turnI turnedBy at hx
  obtain ⟨y, hy, rfl⟩ := List.mem_map.1 hx
  unfold nxI
  split
  · have hpos : 0 < (ringI (vals rs) o).length := List.length_pos_iff.2 hR.ne
    have := hR.rng _ (getD_mem (Nat.mod_lt ((ringI (vals rs) o).idxOf y + 1) hpos))
    rw [vals_length] at this
    omega
  · exact D.own y hy
theorem set_same {P : LMem} {i : Nat} {b : LBlk} (h : P[i]? = some b) : P.set i b = P := by
  obtain ⟨hi, rfl⟩ := List.getElem?_eq_some_iff.1 h
  exact List.set_getElem_self hi
theorem rgturn (nl ex : Bool) (sz : Nat) {rs : List Row} {o : List Int} (D : LOk rs o) (hc : calmI (vals rs) o = -1) {P : LMem} {L : Nat} (R : RMem P (VL nl ex sz rs) L o) (ho : o.length = L) (K A B : LV) :
    ∃ P', RMem P' (VL nl ex sz rs) L (turnI (vals rs) o) ∧ exF LP law07_ShareRings.L2 [(3, .ptr 1 0 1), (4, .ptr 3 0 1), (5, K), (6, .int .i64 (-1)), (31, A), (32, B)] P =
      exF LP law07_ShareRings.L2 [(3, .ptr 1 0 1), (4, .ptr 3 0 1), (5, K), (6, .int .i64 (calmI (vals rs) (turnI (vals rs) o))), (31, A), (32, B)] P' := by
  have D' := D.turn hc
  have hl' := turnI_length (vals rs) o
  have h4 := D.le4
  have h6 := D.le6
  have hpos := D.pos
  have hVp : 0 < (vals rs).length := by rw [vals_length]; exact hpos
  obtain ⟨W, hw⟩ := walk_facts hVp hc
  have hrng := en_rng hc
  have H0 : WOk (fun x => enI (vals rs) o x.toNat) (vals rs).length [] 0 := ⟨by simp, by simp, by omega, by simp, by simp⟩
  have H1 := H0.step hrng (by simp)
  simp only [List.nil_append] at H1
  have e0 : wlk (fun x => enI (vals rs) o x.toNat) ((vals rs).length + 1) [] 0 = wlk (fun x => enI (vals rs) o x.toNat) (vals rs).length [0] (enI (vals rs) o 0) := by
    rw [wlk, if_neg (by simp)]; rfl
  have hR := ringI_ok hVp hc
  have ht : turnI (vals rs) o = o.map (nxI (ringI (vals rs) o)) := rfl
  have he := lenemy_m nl ex sz D R ho 0 hpos
  unfold ringI at hR ht
  rw [e0] at W hw hR ht
  rw [vals_length] at W hw hR H1 ht
  have hloop := rgwalk_loop nl ex sz D hc P R ho K A B rs.length [0] (enI (vals rs) o 0) (by simp) H1 (by simp; omega)
  have eg1 : GWb P [0] = .lst false true 1 1 [.int .i64 0] := rfl
  have eg2 : P ++ GWbm [0] = P := by simp [GWbm]
  rw [eg1, eg2] at hloop
  generalize wlk (fun x => enI (vals rs) o x.toNat) rs.length [0] (enI (vals rs) o 0) = lw at *
  obtain ⟨l, w⟩ := lw
  simp only at W hw hloop hR ht
  have hlen := nodup_le rs.length l W.nd W.rng
  have hne : l ≠ [] := by intro c; subst c; cases hw
  have hpl : 0 < l.length := List.length_pos_iff.2 hne
  have hl1 : ¬ l.length = 1 := by
    intro c
    have hlast := W.last hne
    cases l with
    | nil => exact hne rfl
    | cons a r =>
      cases r with
      | nil =>
        simp at hw hlast
        have := enI_ne (vals rs) o a.toNat
        have h0 := (W.rng a (by simp)).1
        rw [Int.toNat_of_nonneg h0] at this
        rw [hw] at hlast
        exact this hlast.symm
      | cons b r => simp at c
  rw [ringOf_drop w l hw] at ht
  have hidx := idx_lt hw
  have eg3 : GWb P l = .sl P.length 0 l.length l.length 1 1 l.length := by simp only [GWb, if_neg hl1]
  have eg4 : P ++ GWbm l = GMo P l o := by simp only [GWbm, if_neg hl1, GMo, set_same R.h2]
  rw [eg3, eg4] at hloop
  obtain ⟨R1, gl, _⟩ := gmo_mem R l o
  obtain ⟨R2, _, _⟩ := gmo_mem R l (turnI (vals rs) o)
  have hi := index_m (m := GMo P l o) (i := P.length) (p := 0) (n := l.length) (g := 1) (b := true) (cs := l) gl rfl (by omega) (by omega) w
  rw [List.drop_zero, List.take_length, idxI_eq, if_pos hw, Nat.zero_add] at hi
  have hg := rggive_loop R (by omega) K A B l (by omega) (l.idxOf w) (l.length - l.idxOf w) (by omega) (by omega) L 0 o (by omega) ho
  rw [mapFrom_eq _ _ _ _ (by omega), List.take_zero, List.drop_zero, List.nil_append, ← ht, Int.natCast_zero] at hg
  have hsl : sliceL 1 (.sl P.length 0 l.length l.length 1 1 l.length) (some (.int .i64 ((l.idxOf w : Nat) : Int))) none none = some (.sl P.length (l.idxOf w) (l.length - l.idxOf w) (l.length - l.idxOf w) 1 1 l.length) := by
    have hle : l.idxOf w ≤ l.length := by omega
    simp [sliceL, optNatL, natL_nat, nble, nbeq, hle]
  have hfin := lcalm_m nl ex sz D' R2 (by rw [hl']; exact ho) n_law07_ShareRings_2 (.inr rfl)
  refine ⟨GMo P l (turnI (vals rs) o), R2, ?_⟩
  have p1 := R.h1
  have p3 := R.h3
  have g3 := R1.h3
  have k1 := R2.h1
  have lVV : lenL (VL nl ex sz rs) = some rs.length := rfl
  have lSL : lenL (SLo 2 L) = some L := rfl
  have hlist := fun m => list_c false true 1 [0] m
  have hlist : ∀ m, clF LP n_law07_list [.lst false true 1 1 [.int .i64 0]] m = some (.P, .lst false true 1 1 [.int .i64 0], m) := hlist
  have hlt : ((-1 : Int) < 0) := by omega
  rw [Int.natCast_zero] at he
  have hn1 : ¬ P.length ≤ 1 := by have := (List.getElem?_eq_some_iff.1 p1).1; omega
  have hn3 : ¬ P.length ≤ 3 := by have := (List.getElem?_eq_some_iff.1 p3).1; omega
  generalize GMo P l o = M1 at *
  generalize GMo P l (turnI (vals rs) o) = M2 at *
  generalize VL nl ex sz rs = VV at *
  generalize calmI (vals rs) (turnI (vals rs) o) = c2 at *
  conv => lhs; rw [law07_ShareRings.L2_eq]
  simp (maxSteps := 1000000) only [law07_ShareRings.B2, beqT, beqF, exF_seq, exF_region, exF_block, exF_cond, exF_ret, exF_exit, exF_skip, runL, wantL, stepL, evL, evC, LEnv.at, putL, loadFine, loadL, cellsAt, Trk.putNew, Trk.up, Trk.touch, Trk.gives, Trk.calm, Trk.hit, opdsOf, Trk.fresh, LEnv.keep, LEnv.ofFrom, List.map_cons, List.map_nil, nbeq, nble, nblt, ofAV, ofAVs, bin_add, bin_sub, bin_mul, bin_eql, bin_neq, bin_lss, bin_leq, bin_gtr, bin_geq, natL_nat, natL_zero, natL_one, natL_two, Nat.zero_mul, List.any_cons, List.any_nil, Bool.or_false, Bool.false_or, Bool.true_or, Bool.or_true, Bool.and_true, Bool.true_and, Bool.and_false, Bool.false_and, Bool.not_true, Bool.not_false, Nat.reduceBEq, Nat.reduceEqDiff, decide_true, decide_false, cond_true, cond_false, List.filter_nil, List.filter_cons, Nat.reduceAdd, Nat.reduceLeDiff, reduceCtorEq, List.length_nil, List.length_cons, Nat.mul_one, if_true, if_false, Bool.false_eq_true, eq_self, and_true, true_and, retL, resultsL, resAllL, resOfL, List.append_nil, List.nil_append, List.cons_append, true_or, or_true, false_or, or_false, false_and, and_false, not_true_eq_false, not_false_eq_true, ne_eq, unL, trim_nil, views_pures, LV.pures, LV.pure, freeze, Nat.reduceDiv, Int.reduceEq, Int.reduceLT, Int.reduceLE, Int.natCast_zero, LV.cells, allocL, List.getElem?_cons_zero, List.getElem?_cons_succ, storeL, spliceL, List.take_zero, List.take_succ_cons, List.drop_zero, List.drop_succ_cons, List.drop_nil, List.take_nil, Nat.le_refl, Nat.reduceMul, List.set_cons_zero, List.set_cons_succ, LV.scalar, List.all_cons, List.all_nil, Nat.lt_add_one, Nat.zero_lt_one, Nat.reduceLT, Nat.lt_irrefl, fillL, List.length_append, foldIntL, kind_beq, pures_int, solids_int, plains_int, unders_int, scalars_int, hlt, hlist, p1, p3, he, hloop, hi, Option.map_some, Option.map_none, hsl, g3, hg, k1, lVV, lSL, hfin]
theorem rgsettle_loop (nl ex : Bool) (sz : Nat) {rs : List Row} {L : Nat} (K A B : LV) (n : Nat) : ∀ (o : List Int) (P : LMem), LOk rs o → o.length = L → RMem P (VL nl ex sz rs) L o → 480 - ownS (vals rs) o < n →
    ∃ P', RMem P' (VL nl ex sz rs) L (settle (vals rs) n o) ∧ LOk rs (settle (vals rs) n o) ∧ 0 ≤ calmI (vals rs) (settle (vals rs) n o) ∧
    exF LP law07_ShareRings.L2 [(3, .ptr 1 0 1), (4, .ptr 3 0 1), (5, K), (6, .int .i64 (calmI (vals rs) o)), (31, A), (32, B)] P =
      some (.exit 2, [(3, .ptr 1 0 1), (4, .ptr 3 0 1), (5, K), (6, .int .i64 (calmI (vals rs) (settle (vals rs) n o))), (31, A), (32, B)], P') := by
  induction n with
  | zero =>
    intro o P D ho R h
    have := D.d.own
    omega
  | succ n ih =>
    intro o P D ho R h
    rw [settle]
    by_cases hc : calmI (vals rs) o = -1
    · rw [if_pos hc, hc]
      obtain ⟨P1, R1, e1⟩ := rgturn nl ex sz D hc R ho K A B
      have hlt := ownS_lt (by rw [vals_length]; exact D.pos) hc
      rw [e1]
      exact ih _ P1 (D.turn hc) (by rw [turnI_length]; exact ho) R1 (by omega)
    · rw [if_neg hc]
      have hge := calmI_ge (vals rs) o
      refine ⟨P, R, D, by omega, ?_⟩
      have hn : ¬ (calmI (vals rs) o < 0) := by omega
      rw [law07_ShareRings.L2_eq]
      simp only [law07_ShareRings.B2, beqT, beqF, exF_seq, exF_region, exF_block, exF_cond, exF_ret, exF_exit, exF_skip, runL, wantL, stepL, evL, evC, LEnv.at, putL, loadFine, loadL, cellsAt, Trk.putNew, Trk.up, Trk.touch, Trk.gives, Trk.calm, Trk.hit, opdsOf, Trk.fresh, LEnv.keep, LEnv.ofFrom, List.map_cons, List.map_nil, nbeq, nble, nblt, ofAV, ofAVs, lenL, bin_add, bin_sub, bin_mul, bin_eql, bin_neq, bin_lss, bin_leq, bin_gtr, bin_geq, natL_nat, natL_zero, natL_one, natL_two, Nat.zero_mul, List.any_cons, List.any_nil, Bool.or_false, Bool.false_or, Bool.true_or, Bool.or_true, Bool.and_true, Bool.true_and, Bool.and_false, Bool.false_and, Bool.not_true, Bool.not_false, Nat.reduceBEq, Nat.reduceEqDiff, decide_true, decide_false, cond_true, cond_false, List.filter_nil, List.filter_cons, Nat.reduceAdd, Nat.reduceLeDiff, reduceCtorEq, List.length_nil, List.length_cons, Nat.mul_one, if_true, if_false, Bool.false_eq_true, eq_self, and_true, true_and, retL, resultsL, resAllL, resOfL, List.append_nil, List.nil_append, List.cons_append, true_or, or_true, false_or, or_false, false_and, and_false, not_true_eq_false, not_false_eq_true, ne_eq, unL, trim_nil, views_pures, LV.pures, LV.pure, freeze, Nat.reduceDiv, Int.reduceEq, Int.reduceLT, Int.reduceLE, Int.natCast_zero, LV.cells, allocL, List.getElem?_cons_zero, List.getElem?_cons_succ, storeL, spliceL, List.take_zero, List.take_succ_cons, List.drop_zero, List.drop_succ_cons, List.drop_nil, List.take_nil, Nat.le_refl, Nat.reduceMul, List.set_cons_zero, List.set_cons_succ, LV.scalar, List.all_cons, List.all_nil, Nat.lt_add_one, Nat.zero_lt_one, Nat.reduceLT, Nat.lt_irrefl, fillL, List.length_append, foldIntL, kind_beq, pures_int, solids_int, plains_int, unders_int, scalars_int, hn]
end Go.Am.Share

/-
  Plain: one after the other, with rings turned, nobody envies anybody by more than one thing.
-/
set_option linter.unusedVariables false
set_option linter.unusedSimpArgs false
set_option maxRecDepth 10000
set_option maxHeartbeats 400000
namespace Go.Am.Share
open Go.Am.G

theorem wg_iff (a b : Int) : ∀ (r o o' : List Int) (c : Int × Int), o.length = o'.length → (∀ k, k < o.length → (o.getD k 0 = a ↔ o'.getD k 0 = b)) → wg a r o c = wg b r o' c
  | [], o, o', c, _, _ => by simp [wg]
  | x :: r, [], [], c, _, _ => by simp [wg]
  | x :: r, [], y' :: o', c, h, _ => by simp at h
  | x :: r, y :: o, [], c, h, _ => by simp at h
  | x :: r, y :: o, y' :: o', c, h, hk => by
    have h0 := hk 0 (by simp)
    simp only [List.getD_cons_zero] at h0
    have ih := fun c => wg_iff a b r o o' c (by simpa using h) (fun k hk' => by
      have := hk (k + 1) (by simpa using hk')
      simpa using this)
    rw [wg, wg, ih]
    by_cases e : y = a
    · rw [if_pos e, if_pos (h0.1 e)]
    · rw [if_neg e, if_neg (fun c => e (h0.2 c))]
theorem ws_iff (a b : Int) (r o o' : List Int) (h : o.length = o'.length) (hk : ∀ k, k < o.length → (o.getD k 0 = a ↔ o'.getD k 0 = b)) : ws a r o 0 = ws b r o' 0 := by
  have h1 := wg_ws a r o (0, 0)
  have h2 := wg_ws b r o' (0, 0)
  rw [wg_iff a b r o o' (0, 0) h hk] at h1
  rw [← h1, h2]
/-- No envy by more than one thing. -/
def E1 (V : List (List Int)) (o : List Int) : Prop := ∀ i j : Nat, i < V.length → j < V.length → ws (j : Int) (V.getD i []) o 0 - (wg (j : Int) (V.getD i []) o (0, 0)).2 ≤ ws (i : Int) (V.getD i []) o 0
theorem px_e1 {V : List (List Int)} {o : List Int} : PX V o = [] ↔ E1 V o := by
  unfold PX outer inner E1 eX
  simp only [List.flatMap_eq_nil_iff, List.map_eq_nil_iff, List.filter_eq_nil_iff, List.mem_range'_1, decide_eq_true_eq]
  constructor
  · intro h i j hi hj
    have := h i ⟨by omega, by omega⟩ j ⟨by omega, by omega⟩
    omega
  · intro h i hi j hj
    have := h i j (by omega) (by omega)
    omega
theorem getD_map (f : Int → Int) (o : List Int) (k : Nat) (hk : k < o.length) : (o.map f).getD k 0 = f (o.getD k 0) := by
  simp [List.getD_eq_getElem?_getD, List.getElem?_eq_getElem hk]
/-- Who has whose share after a ring was turned. -/
theorem turn_share {V : List (List Int)} {o : List Int} (hV : 0 < V.length) (h : calmI V o = -1) (j : Nat) (hj : j < V.length) : ∃ p : Nat, p < V.length ∧ (∀ z : Int, nxI (ringI V o) z = (j : Int) ↔ z = (p : Int)) ∧ (p = j ∨ 0 < eW V o j p) := by
  have R := ringI_ok hV h
  generalize ringI V o = g at *
  have hlen : 0 < g.length := by have := R.ne; cases g with | nil => exact absurd rfl this | cons a r => simp
  by_cases hx : (j : Int) ∈ g
  · obtain ⟨q, hq, hq2⟩ := mod_pred (idx_lt hx)
    have hy := getD_mem hq
    have hxe := R.nxt q hq
    rw [hq2, getD_idx hx] at hxe
    have ry := R.rng _ hy
    have hxe2 : (j : Int) = enI V o (g.getD q 0).toNat := hxe
    have hen := (enI_ok h ry.1 ry.2).2.2
    rw [← hxe2, Int.toNat_natCast] at hen
    refine ⟨(g.getD q 0).toNat, by omega, fun z => ?_, .inr hen⟩
    rw [Int.toNat_of_nonneg ry.1]
    unfold nxI
    by_cases hz : z ∈ g
    · rw [if_pos hz]
      constructor
      · intro c
        have c2 : g.getD ((g.idxOf z + 1) % g.length) 0 = g.getD (g.idxOf (j : Int)) 0 := by rw [c, getD_idx hx]
        have c3 := getD_inj R.nd (Nat.mod_lt _ hlen) (idx_lt hx) c2
        rw [← hq2] at c3
        have c4 := mod_inj (idx_lt hz) hq c3
        rw [← c4, getD_idx hz]
      · intro c
        have c2 : g.idxOf z = q := getD_inj R.nd (idx_lt hz) hq (by rw [getD_idx hz, c])
        rw [c2, hq2, getD_idx hx]
    · rw [if_neg hz]
      constructor
      · intro c; subst c; exact absurd hx hz
      · intro c; subst c; exact absurd hy hz
  · refine ⟨j, hj, fun z => ?_, .inl rfl⟩
    unfold nxI
    by_cases hz : z ∈ g
    · rw [if_pos hz]
      constructor
      · intro c
        exact absurd (c ▸ getD_mem (Nat.mod_lt _ hlen)) hx
      · intro c; subst c; exact absurd hz hx
    · rw [if_neg hz]
theorem E1.turn {V : List (List Int)} {o : List Int} (hV : 0 < V.length) (hc : calmI V o = -1) (E : E1 V o) : E1 V (turnI V o) := by
  intro i j hi hj
  obtain ⟨p, p1, p2, _⟩ := turn_share hV hc j hj
  obtain ⟨q, q1, q2, q3⟩ := turn_share hV hc i hi
  have hl : (turnI V o).length = o.length := turnI_length V o
  have hg : ∀ (x : Nat) (y : Nat), (∀ z : Int, nxI (ringI V o) z = (x : Int) ↔ z = (y : Int)) → ∀ k, k < (turnI V o).length → ((turnI V o).getD k 0 = (x : Int) ↔ o.getD k 0 = (y : Int)) := fun x y hxy k hk => by
    unfold turnI turnedBy
    rw [getD_map _ _ _ (by omega)]
    exact hxy _
  rw [ws_iff (j : Int) (p : Int) (V.getD i []) (turnI V o) o hl (hg j p p2), wg_iff (j : Int) (p : Int) (V.getD i []) (turnI V o) o (0, 0) hl (hg j p p2), ws_iff (i : Int) (q : Int) (V.getD i []) (turnI V o) o hl (hg i q q2)]
  have h1 := E i p hi p1
  rcases q3 with rfl | q3
  · exact h1
  · unfold eW at q3
    omega
theorem E1.settle {V : List (List Int)} (hV : 0 < V.length) : ∀ (n : Nat) (o : List Int), E1 V o → E1 V (settle V n o)
  | 0, o, h => h
  | n + 1, o, h => by
    rw [Go.Am.Share.settle]
    by_cases hc : calmI V o = -1
    · rw [if_pos hc]; exact E1.settle hV n _ (h.turn hV hc)
    · rw [if_neg hc]; exact h
theorem calm_none {V : List (List Int)} {o : List Int} (h : 0 ≤ calmI V o) : ∃ c : Nat, calmI V o = (c : Int) ∧ c < V.length ∧ ∀ i, i < V.length → ws (c : Int) (V.getD i []) o 0 ≤ ws (i : Int) (V.getD i []) o 0 := by
  rcases fstI_cases (fun j => decide (enI V o j = -1)) V.length 0 with ⟨a, _⟩ | ⟨c, a, b1, b2, d⟩
  · unfold calmI at h; omega
  · refine ⟨c, a, by omega, fun i hi => ?_⟩
    have d : enI V o c = -1 := by simpa using d
    rcases fstI_cases (fun i => decide (0 < eW V o i c)) V.length 0 with ⟨_, b⟩ | ⟨i2, a2, _⟩
    · have := b i (by omega) (by omega)
      simp only [decide_eq_false_iff_not] at this
      unfold eW at this
      omega
    · have e : enI V o c = (i2 : Int) := a2
      omega
theorem getD_set (o : List Int) (k m : Nat) (x : Int) (hk : k < o.length) : (o.set k x).getD m 0 = if m = k then x else o.getD m 0 := by
  simp only [List.getD_eq_getElem?_getD]
  by_cases c : m = k
  · subst c
    rw [if_pos rfl, List.getElem?_set_self hk]; rfl
  · rw [if_neg c, List.getElem?_set_ne (by omega)]
theorem E1.put {V : List (List Int)} {o : List Int} {L : Nat} (ho : o.length = L) (hVl : ∀ i, i < V.length → (V.getD i []).length = L ∧ Ok20 (V.getD i [])) (E : E1 V o) {k : Nat} (hk : k < L) (hn : o.getD k 0 = -1) {c : Nat} (hcl : c < V.length) (hcalm : ∀ i, i < V.length → ws (c : Int) (V.getD i []) o 0 ≤ ws (i : Int) (V.getD i []) o 0) : E1 V (o.set k (c : Int)) := by
  intro i j hi hj
  obtain ⟨l1, ok⟩ := hVl i hi
  have w1 := ws_set (j : Int) (c : Int) (V.getD i []) o k (by omega) (by omega)
  have w2 := ws_set (i : Int) (c : Int) (V.getD i []) o k (by omega) (by omega)
  rw [hn, if_neg (by omega)] at w1 w2
  have x0 : 0 ≤ (V.getD i []).getD k 0 := by
    rw [List.getD_eq_getElem?_getD, List.getElem?_eq_getElem (by omega)]
    exact (ok _ (List.getElem_mem _)).1
  have hown : ws (i : Int) (V.getD i []) o 0 ≤ ws (i : Int) (V.getD i []) (o.set k (c : Int)) 0 := by
    rw [w2]; split <;> omega
  by_cases hjc : j = c
  · subst hjc
    rw [if_pos rfl] at w1
    have gm := (wg_max (j : Int) (V.getD i []) (o.set k (j : Int)) (0, 0)).2 k (by omega) (by rw [List.length_set]; omega) (by rw [getD_set _ _ _ _ (by omega), if_pos rfl])
    have := hcalm i hi
    omega
  · rw [if_neg (by omega)] at w1
    have hw := wg_iff (j : Int) (j : Int) (V.getD i []) (o.set k (c : Int)) o (0, 0) (by rw [List.length_set]) (fun m hm => by
      rw [getD_set _ _ _ _ (by omega)]
      by_cases e : m = k
      · subst e
        rw [if_pos rfl, hn]
        constructor <;> intro h <;> omega
      · rw [if_neg e])
    have := E i j hi hj
    rw [hw]
    omega
theorem E1.nones {V : List (List Int)} (L : Nat) : E1 V (nones L) := by
  have hw : ∀ (j : Nat) (r : List Int) (n : Nat), ws (j : Int) r (List.replicate n (-1)) 0 = 0 := fun j r => by
    induction r with
    | nil => intro n; simp [ws]
    | cons x r ih =>
      intro n
      cases n with
      | zero => simp [ws]
      | succ n => rw [List.replicate_succ, ws_cons, if_neg (by omega), ih]; rfl
  intro i j hi hj
  have h0 := (wg_max (j : Int) (V.getD i []) (Share.nones L) (0, 0)).1
  have e1 := hw j (V.getD i []) L
  have e2 := hw i (V.getD i []) L
  unfold Share.nones at *
  rw [e1, e2]
  simp only at h0
  omega
/-- What is given, and what is not. -/
structure Rest (N L k : Nat) (o : List Int) : Prop where
  len : o.length = L
  rest : ∀ m, k ≤ m → m < L → o.getD m 0 = -1
  inr : ∀ m, m < k → 0 ≤ o.getD m 0 ∧ o.getD m 0 < (N : Int)
theorem Rest.turn {V : List (List Int)} {o : List Int} (hV : 0 < V.length) (hc : calmI V o = -1) {L k : Nat} (hk : k ≤ L) (R : Rest V.length L k o) : Rest V.length L k (turnI V o) := by
  have G := ringI_ok hV hc
  have hpos : 0 < (ringI V o).length := List.length_pos_iff.2 G.ne
  refine ⟨by rw [turnI_length]; exact R.len, fun m h1 h2 => ?_, fun m h1 => ?_⟩
  · unfold turnI turnedBy
    rw [getD_map _ _ _ (by rw [R.len]; omega), R.rest m h1 h2]
    unfold nxI
    rw [if_neg]
    intro h
    have := G.rng _ h
    omega
  · unfold turnI turnedBy
    rw [getD_map _ _ _ (by rw [R.len]; omega)]
    unfold nxI
    split
    · exact G.rng _ (getD_mem (Nat.mod_lt _ hpos))
    · exact R.inr m h1
theorem Rest.settle {V : List (List Int)} (hV : 0 < V.length) {L k : Nat} (hk : k ≤ L) : ∀ (n : Nat) (o : List Int), Rest V.length L k o → Rest V.length L k (settle V n o)
  | 0, o, h => h
  | n + 1, o, h => by
    rw [Go.Am.Share.settle]
    by_cases hc : calmI V o = -1
    · rw [if_pos hc]; exact Rest.settle hV hk n _ (h.turn hV hc hk)
    · rw [if_neg hc]; exact h
theorem Rest.put {N L k : Nat} {o : List Int} (R : Rest N L k o) (hk : k < L) {c : Int} (h0 : 0 ≤ c) (h1 : c < (N : Int)) : Rest N L (k + 1) (o.set k c) := by
  refine ⟨by rw [List.length_set]; exact R.len, fun m h2 h3 => ?_, fun m h2 => ?_⟩
  · rw [getD_set _ _ _ _ (by rw [R.len]; omega), if_neg (by omega)]
    exact R.rest m (by omega) h3
  · rw [getD_set _ _ _ _ (by rw [R.len]; omega)]
    split
    · exact ⟨h0, h1⟩
    · exact R.inr m (by omega)
theorem Rest.nones (N L : Nat) : Rest N L 0 (nones L) := ⟨by simp [Share.nones], fun m _ h => by simp [Share.nones, List.getD_eq_getElem?_getD, h], fun m h => by omega⟩
end Go.Am.Share

/-
  What functions of chapter 07 compute, outright 23: the law 'ShareRings', joined.
-/
set_option linter.unusedVariables false
set_option linter.unusedSimpArgs false
set_option maxRecDepth 10000
set_option maxHeartbeats 400000
namespace Go.Am.Share
open Go.Am.G

theorem LOk.put {rs : List Row} {o : List Int} (D : LOk rs o) (k : Nat) {c : Int} (h0 : 0 ≤ c) (h1 : c < (rs.length : Int)) : LOk rs (o.set k c) :=
  ⟨D.pos, D.le4, fun i hi => by rw [List.length_set]; exact D.len i hi, D.ok, by rw [List.length_set]; exact D.le6, fun x hx => by
    rcases List.mem_or_eq_of_mem_set hx with h | rfl
    · exact D.own x h
    · omega⟩
theorem ljudged_m (nl ex : Bool) (sz : Nat) {rs : List Row} {o : List Int} (D : LOk rs o) {m : LMem} {L : Nat} (R : RMem m (VL nl ex sz rs) L o) (ho : o.length = L) :
    clF LP n_law07_judged [VL nl ex sz rs, SLo 2 L] m = some (.P, .tup [.int .i64 (judF (vals rs) o), .agg [.int .i64 (((PX (vals rs) o).headD (0, 0)).1 : Int), .int .i64 (((PX (vals rs) o).headD (0, 0)).2 : Int)]], m) := by
  have hpv : (VL nl ex sz rs).pure = true := by simp only [LV.pure, pures_row]
  exact call_view lp_law07_judged rfl (views_in m _ _ _ _ [] (view_slo R.h2 ho) hpv rfl rfl (by simp)) (by simp [LV.pures, LV.pure]) (judged_c nl ex false true sz 1 D []) rfl
theorem rgput (nl ex : Bool) (sz : Nat) {rs : List Row} {L k : Nat} (A : LV) {o : List Int} (D : LOk rs o) (ho : o.length = L) {P : LMem} (R : RMem P (VL nl ex sz rs) L o) (hj : judF (vals rs) o ≠ 0) :
    exF LP law07_ShareRings.B3.R0 [(3, .ptr 1 0 1), (4, .ptr 3 0 1), (31, A), (32, .int .i64 (k : Int))] P = some (.normal, [(3, .ptr 1 0 1), (4, .ptr 3 0 1), (13, .int .i64 (judF (vals rs) o)), (31, A), (32, .int .i64 (k : Int))], P ++ [⟨[.int .i64 (((PX (vals rs) o).headD (0, 0)).1 : Int), .int .i64 (((PX (vals rs) o).headD (0, 0)).2 : Int)], true⟩]) := by
  have hjud := ljudged_m nl ex sz D R ho
  have p1 := R.h1
  have p3 := R.h3
  have hn1 : ¬ P.length ≤ 1 := by have := (List.getElem?_eq_some_iff.1 p1).1; omega
  have hn3 : ¬ P.length ≤ 3 := by have := (List.getElem?_eq_some_iff.1 p3).1; omega
  have hof3 : ofAVs [.int .i64 0, .int .i64 0] = [.int .i64 0, .int .i64 0] := rfl
  have hca : ∀ cs, (LV.agg cs).cells = some cs := fun _ => rfl
  have hci : ∀ n : Int, (LV.int .i64 n).cells = some [.int .i64 n] := fun _ => rfl
  have hsi : ∀ n : Int, LV.scalar (.int .i64 n) = true := fun _ => rfl
  generalize (((PX (vals rs) o).headD (0, 0)).1 : Int) = y1 at *
  generalize (((PX (vals rs) o).headD (0, 0)).2 : Int) = y2 at *
  have s1 : (P ++ [(⟨[.int .i64 0, .int .i64 0], true⟩ : LBlk)])[P.length]? = some ⟨[.int .i64 0, .int .i64 0], true⟩ := by simp
  have s2 : (P ++ [(⟨[.int .i64 0, .int .i64 0], true⟩ : LBlk)]).set P.length ⟨[.int .i64 y1, .int .i64 y2], true⟩ = P ++ [⟨[.int .i64 y1, .int .i64 y2], true⟩] := by simp
  have hdr : List.drop 2 [LV.int .i64 0, LV.int .i64 0] = [] := rfl
  generalize judF (vals rs) o = J at *
  generalize VL nl ex sz rs = VV at *
  simp (maxSteps := 1000000) only [law07_ShareRings.B3.R0, beqT, beqF, exF_seq, exF_region, exF_block, exF_cond, exF_ret, exF_exit, exF_skip, runL, wantL, stepL, evL, evC, LEnv.at, putL, loadFine, loadL, cellsAt, Trk.putNew, Trk.up, Trk.touch, Trk.gives, Trk.calm, Trk.hit, opdsOf, Trk.fresh, LEnv.keep, LEnv.ofFrom, List.map_cons, List.map_nil, nbeq, nble, nblt, ofAV, ofAVs, bin_add, bin_sub, bin_mul, bin_eql, bin_neq, bin_lss, bin_leq, bin_gtr, bin_geq, natL_nat, natL_zero, natL_one, natL_two, Nat.zero_mul, List.any_cons, List.any_nil, Bool.or_false, Bool.false_or, Bool.true_or, Bool.or_true, Bool.and_true, Bool.true_and, Bool.and_false, Bool.false_and, Bool.not_true, Bool.not_false, Nat.reduceBEq, Nat.reduceEqDiff, decide_true, decide_false, cond_true, cond_false, List.filter_nil, List.filter_cons, Nat.reduceAdd, Nat.reduceLeDiff, reduceCtorEq, List.length_nil, List.length_cons, Nat.mul_one, if_true, if_false, Bool.false_eq_true, eq_self, and_true, true_and, retL, resultsL, resAllL, resOfL, List.append_nil, List.nil_append, List.cons_append, true_or, or_true, false_or, or_false, false_and, and_false, not_true_eq_false, not_false_eq_true, ne_eq, unL, trim_nil, views_pures, LV.pures, LV.pure, freeze, Nat.reduceDiv, Int.reduceEq, Int.reduceLT, Int.reduceLE, Int.natCast_zero, allocL, List.getElem?_cons_zero, List.getElem?_cons_succ, storeL, spliceL, List.take_zero, List.take_succ_cons, List.drop_zero, List.drop_succ_cons, List.drop_nil, List.take_nil, Nat.le_refl, Nat.reduceMul, List.set_cons_zero, List.set_cons_succ, List.all_cons, List.all_nil, Nat.lt_add_one, Nat.zero_lt_one, Nat.reduceLT, Nat.lt_irrefl, fillL, List.length_append, foldIntL, kind_beq, pures_int, solids_int, plains_int, unders_int, scalars_int, p1, p3, hn1, hn3, hjud, hof3, hca, hci, hsi, s1, s2, hdr]
theorem rgall_loop (nl ex : Bool) (sz : Nat) {rs : List Row} {L : Nat} (hVl : ∀ i, i < (vals rs).length → ((vals rs).getD i []).length = L ∧ Ok20 ((vals rs).getD i [])) (n : Nat) : ∀ (k : Nat) (o : List Int) (P : LMem), k + n = L → LOk rs o → Rest rs.length L k o → E1 (vals rs) o → RMem P (VL nl ex sz rs) L o →
    ∃ P', RMem P' (VL nl ex sz rs) L (ringsI (vals rs) n k o) ∧ LOk rs (ringsI (vals rs) n k o) ∧ Rest rs.length L L (ringsI (vals rs) n k o) ∧ E1 (vals rs) (ringsI (vals rs) n k o) ∧
    exF LP law07_ShareRings.L3 [(3, .ptr 1 0 1), (4, .ptr 3 0 1), (31, .int .i64 (L : Int)), (32, .int .i64 (k : Int))] P = some (.exit 0, [(3, .ptr 1 0 1), (4, .ptr 3 0 1)], P') := by
  have hvl := vals_length rs
  induction n with
  | zero =>
    intro k o P hk D T E R
    obtain rfl : k = L := by omega
    refine ⟨P, R, D, T, E, ?_⟩
    rw [law07_ShareRings.L3_eq]
    simp only [law07_ShareRings.B3, beqT, beqF, exF_seq, exF_region, exF_block, exF_cond, exF_ret, exF_exit, exF_skip, runL, wantL, stepL, evL, evC, LEnv.at, putL, loadFine, loadL, cellsAt, Trk.putNew, Trk.up, Trk.touch, Trk.gives, Trk.calm, Trk.hit, opdsOf, Trk.fresh, LEnv.keep, LEnv.ofFrom, List.map_cons, List.map_nil, nbeq, nble, nblt, ofAV, ofAVs, lenL, bin_add, bin_sub, bin_mul, bin_eql, bin_neq, bin_lss, bin_leq, bin_gtr, bin_geq, natL_nat, natL_zero, natL_one, natL_two, Nat.zero_mul, List.any_cons, List.any_nil, Bool.or_false, Bool.false_or, Bool.true_or, Bool.or_true, Bool.and_true, Bool.true_and, Bool.and_false, Bool.false_and, Bool.not_true, Bool.not_false, Nat.reduceBEq, Nat.reduceEqDiff, decide_true, decide_false, cond_true, cond_false, List.filter_nil, List.filter_cons, Nat.reduceAdd, Nat.reduceLeDiff, reduceCtorEq, List.length_nil, List.length_cons, Nat.mul_one, if_true, if_false, Bool.false_eq_true, eq_self, and_true, true_and, retL, resultsL, resAllL, resOfL, List.append_nil, List.nil_append, List.cons_append, true_or, or_true, false_or, or_false, false_and, and_false, not_true_eq_false, not_false_eq_true, ne_eq, unL, trim_nil, views_pures, LV.pures, LV.pure, freeze, Nat.reduceDiv, Int.reduceEq, Int.reduceLT, Int.reduceLE, Int.natCast_zero, LV.cells, allocL, List.getElem?_cons_zero, List.getElem?_cons_succ, storeL, spliceL, List.take_zero, List.take_succ_cons, List.drop_zero, List.drop_succ_cons, List.drop_nil, List.take_nil, Nat.le_refl, Nat.reduceMul, List.set_cons_zero, List.set_cons_succ, LV.scalar, List.all_cons, List.all_nil, Nat.lt_add_one, Nat.zero_lt_one, Nat.reduceLT, Nat.lt_irrefl, fillL, List.length_append, foldIntL, kind_beq, pures_int, solids_int, plains_int, unders_int, scalars_int, Int.lt_irrefl]
  | succ n ih =>
    intro k o P hk D T E R
    have hkL : k < L := by omega
    have hV : 0 < (vals rs).length := by rw [hvl]; exact D.pos
    rw [ringsI]
    have hfin := lcalm_m nl ex sz D R T.len n_law07_ShareRings_1 (.inl rfl)
    have hb := D.d.own
    obtain ⟨P1, R1, D1, hge, e1⟩ := rgsettle_loop nl ex sz (.int .i64 (k : Int)) (.int .i64 (L : Int)) (.int .i64 (k : Int)) 500 o P D T.len R (by omega)
    have T' : Rest (vals rs).length L k o := by rw [hvl]; exact T
    have T1 := T'.settle hV (by omega) 500
    have E1' := E.settle hV 500
    obtain ⟨c, hc, hcl, hcalm⟩ := calm_none hge
    generalize settle (vals rs) 500 o = o1 at *
    rw [hc] at e1 ⊢
    have E2 := E1'.put T1.len hVl hkL (T1.rest k (by omega) hkL) hcl hcalm
    have T2 := T1.put hkL (c := (c : Int)) (by omega) (by omega)
    rw [hvl] at T2 hcl
    have D2 := D1.put k (c := (c : Int)) (by omega) (by omega)
    have hj : judF (vals rs) (o1.set k (c : Int)) ≠ 0 := by
      unfold judF stF
      rw [px_e1.2 E2, if_neg (by simp)]
      split <;> omega
    have hk2 : k < o1.length := by rw [T1.len]; exact hkL
    -- the memory with the owner
    have R2 : RMem (P1.set 2 ⟨ints (o1.set k (c : Int)), true⟩) (VL nl ex sz rs) L (o1.set k (c : Int)) := by
      have h3 := (List.getElem?_eq_some_iff.1 R1.h3).1
      refine ⟨?_, ?_, ?_⟩
      · rw [List.getElem?_set_ne (by omega)]; exact R1.h1
      · rw [List.getElem?_set_self (by omega)]
      · rw [List.getElem?_set_ne (by omega)]; exact R1.h3
    have hp := rgput nl ex sz (k := k) (.int .i64 (L : Int)) D2 T2.len R2 hj
    have R3 := R2.app [(⟨[.int .i64 (((PX (vals rs) (o1.set k (c : Int))).headD (0, 0)).1 : Int), .int .i64 (((PX (vals rs) (o1.set k (c : Int))).headD (0, 0)).2 : Int)], true⟩ : LBlk)]
    obtain ⟨P', a1, a2, a3, a4, a5⟩ := ih (k + 1) _ _ (by omega) D2 T2 E2 R3
    refine ⟨P', a1, a2, a3, a4, ?_⟩
    rw [← a5]
    have hws := wrap_succ (show k + 1 < 9223372036854775808 by have := D.le6; have := T.len; omega)
    have p1 := R.h1
    have p2 := R1.h2
    have p3 := R1.h3
    have hcl1 : (ints o1).length = L := by simp [T1.len]
    have hn3 : ¬ P1.length ≤ 3 := by have := (List.getElem?_eq_some_iff.1 p3).1; omega
    have hn2 : ¬ P1.length ≤ 2 := by have := (List.getElem?_eq_some_iff.1 p2).1; omega
    have lVV : lenL (VL nl ex sz rs) = some rs.length := rfl
    have lT1 := T1.len
    generalize P1.set 2 ⟨ints (o1.set k (c : Int)), true⟩ ++ [(⟨[.int .i64 (((PX (vals rs) (o1.set k (c : Int))).headD (0, 0)).1 : Int), .int .i64 (((PX (vals rs) (o1.set k (c : Int))).headD (0, 0)).2 : Int)], true⟩ : LBlk)] = M3 at *
    generalize judF (vals rs) (o1.set k (c : Int)) = J at *
    generalize VL nl ex sz rs = VV at *
    rw [law07_ShareRings.L3_eq]
    simp (maxSteps := 1000000) only [law07_ShareRings.B3, beqT, beqF, exF_seq, exF_region, exF_block, exF_cond, exF_ret, exF_exit, exF_skip, runL, wantL, stepL, evL, evC, LEnv.at, putL, loadFine, loadL, cellsAt, Trk.putNew, Trk.up, Trk.touch, Trk.gives, Trk.calm, Trk.hit, opdsOf, Trk.fresh, LEnv.keep, LEnv.ofFrom, List.map_cons, List.map_nil, nbeq, nble, nblt, ofAV, ofAVs, bin_add, bin_sub, bin_mul, bin_eql, bin_neq, bin_lss, bin_leq, bin_gtr, bin_geq, natL_nat, natL_zero, natL_one, natL_two, Nat.zero_mul, List.any_cons, List.any_nil, Bool.or_false, Bool.false_or, Bool.true_or, Bool.or_true, Bool.and_true, Bool.true_and, Bool.and_false, Bool.false_and, Bool.not_true, Bool.not_false, Nat.reduceBEq, Nat.reduceEqDiff, decide_true, decide_false, cond_true, cond_false, List.filter_nil, List.filter_cons, Nat.reduceAdd, Nat.reduceLeDiff, reduceCtorEq, List.length_nil, List.length_cons, Nat.mul_one, if_true, if_false, Bool.false_eq_true, eq_self, and_true, true_and, retL, resultsL, resAllL, resOfL, List.append_nil, List.nil_append, List.cons_append, true_or, or_true, false_or, or_false, false_and, and_false, not_true_eq_false, not_false_eq_true, ne_eq, unL, trim_nil, views_pures, LV.pures, LV.pure, freeze, Nat.reduceDiv, Int.reduceEq, Int.reduceLT, Int.reduceLE, Int.natCast_zero, LV.cells, allocL, List.getElem?_cons_zero, List.getElem?_cons_succ, storeL, spliceL, List.take_zero, List.take_succ_cons, List.drop_zero, List.drop_succ_cons, List.drop_nil, List.take_nil, Nat.le_refl, Nat.reduceMul, List.set_cons_zero, List.set_cons_succ, LV.scalar, List.all_cons, List.all_nil, Nat.lt_add_one, Nat.zero_lt_one, Nat.reduceLT, Nat.lt_irrefl, fillL, List.length_append, foldIntL, kind_beq, pures_int, solids_int, plains_int, unders_int, scalars_int, show ((k : Int) < (L : Int)) by omega, p1, lVV, hfin, e1, p2, p3, hn2, hn3, hkL, List.length_map, lT1, Nat.zero_add, show k + 1 ≤ L by omega, set_int _ _ _ _ hk2, hp, hj, hws]
end Go.Am.Share

/-
  What functions of chapter 07 compute, outright 24: the law 'ShareRings', joined.
-/
set_option linter.unusedVariables false
set_option linter.unusedSimpArgs false
set_option maxRecDepth 10000
set_option maxHeartbeats 400000
namespace Go.Am.Share
open Go.Am.G

theorem rings_in (ns : List Int) (hl : ns.length = 26) (hb : ∀ n ∈ ns, 0 ≤ n ∧ n < 256) :
    clF LP n_law07_ShareRings [.agg (ns.map (LV.int .u8))] [] = some (.P, .bool true, []) := by
  obtain ⟨w, rfl, hwb⟩ := bytes_nat ns hb
  rw [ci_ln] at hl
  show clF LP n_law07_ShareRings [.agg (bys w)] [] = some (.P, .bool true, [])
  obtain ⟨b0, c0, z0, hm⟩ := made_c w hl hwb 4 6 20 (by omega) (by omega) (by omega)
  have hr := Nat.mod_lt (w.getD 0 0) (show 0 < 4 by omega)
  have hn := Nat.mod_lt (w.getD 1 0) (show 0 < 6 + 1 by omega)
  have hbl : (bys w).length = 26 := by simp [hl]
  have htk : (bys w).take 26 = bys w := List.take_of_length_le (by omega)
  have hps : LV.pures (bys w) = true := pures_int _ _
  generalize hn' : w.getD 1 0 % (6 + 1) = L at *
  generalize hr' : 1 + w.getD 0 0 % 4 = r at *
  have hr1 : 1 ≤ r := by omega
  have hr4 : r ≤ 4 := by omega
  have hrl := rsM_len w 20 L r
  have hvals := rsM_vals w 20 L r
  have hDn : ∀ o : List Int, o.length = L → (∀ x ∈ o, -1 ≤ x ∧ x < ((rsM w 20 L r).length : Int)) → LOk (rsM w 20 L r) o := fun o ho h => rsM_ok w 20 L r (by omega) (by omega) hr1 hr4 o ho (fun x hx => by have := h x hx; rw [hrl] at this; omega)
  have hdv : ∀ o : List Int, o.length = L → (∀ x ∈ o, 0 ≤ x ∧ x < ((rsM w 20 L r).length : Int)) → divE (vals (rsM w 20 L r)) o = 0 := fun o ho h => by rw [hvals]; exact divM w 20 L r (by omega) (by omega) hr1 hr4 o ho (fun x hx => by have := h x hx; rw [hrl] at this; exact this)
  have hck : chkV (vals (rsM w 20 L r)) = 0 := by rw [hvals]; exact chkM w 20 L r (by omega) (by omega) hr1 hr4
  have hrow0 : ((rsM w 20 L r).map Row.lv)[0]? = some (rowR (rowL (cut6 w 0) 20 L)).lv := by
    rw [row_at _ _ (by omega), rsM_at]
  have hlen0 : lenL (rowR (rowL (cut6 w 0) 20 L)).lv = some L := by
    show some (rowL (cut6 w 0) 20 L).length = some L
    rw [rowL_len]
  have hV0 : ((vals (rsM w 20 L r)).getD 0 []).length = L := by
    rw [vals_at _ 0 (by omega), rsM_at]
    show (rowL _ 20 L).length = L
    rw [rowL_len]
  generalize hrs : rsM w 20 L r = rs at *
  have hpos : 0 < rs.length := by omega
  have hvl := vals_length rs
  have hnl : (nones L).length = L := by simp [nones]
  have D0 : LOk rs (nones L) := hDn _ hnl (fun x hx => by
    have : x = -1 := List.eq_of_mem_replicate hx
    omega)
  have hVl : ∀ i, i < (vals rs).length → ((vals rs).getD i []).length = L ∧ Ok20 ((vals rs).getD i []) := fun i hi => by
    have hi2 : i < rs.length := by omega
    have e := D0.len i hi2
    rw [hnl] at e
    rw [vals_at rs i hi2]
    exact ⟨e.symm, D0.ok i hi2⟩
  have hr10 : ∀ x ∈ rs, x.l.length < 1000000 := fun x hx => by
    obtain ⟨i, hi, e⟩ := List.getElem_of_mem hx
    have := D0.len i hi
    rw [hnl] at this
    rw [← e]; omega
  have R0 : RMem [⟨bys w, true⟩, ⟨[VL b0 c0 z0 rs], true⟩, ⟨ints (nones L), true⟩, ⟨[SLo 2 L], true⟩] (VL b0 c0 z0 rs) L (nones L) := ⟨rfl, rfl, rfl⟩
  obtain ⟨P', R1, D1, T1, E1, l3⟩ := rgall_loop b0 c0 z0 hVl L 0 (nones L) _ (by omega) D0 (Rest.nones rs.length L) (E1.nones L) R0
  have hrv : ringsV (vals rs) = ringsI (vals rs) L 0 (nones L) := by unfold ringsV; rw [if_pos hck, hV0]
  have hrP := fun m => ringsP_c b0 c0 z0 rs (by omega) hr10 m
  rw [hck, hrv] at hrP
  have hrP : ∀ m, clF LP n_share_Rings [VL b0 c0 z0 rs] m = some (.P, .tup [IL false true 1 (ringsI (vals rs) L 0 (nones L)), .int .i64 0], m) := hrP
  generalize ringsI (vals rs) L 0 (nones L) = o at *
  have hin : ∀ x ∈ o, 0 ≤ x ∧ x < (rs.length : Int) := fun x hx => by
    obtain ⟨i, hi, e⟩ := List.getElem_of_mem hx
    have := T1.inr i (by rw [← T1.len]; exact hi)
    rw [List.getD_eq_getElem?_getD, List.getElem?_eq_getElem hi] at this
    rw [← e]
    exact this
  have hd := hdv o T1.len hin
  have hI := in_lok D1 (.inr rfl) (fun h : false = true => by cases h)
  have hfair := fun m => fairP_c b0 c0 false true z0 1 rs o hI m
  have hwhy := fun m => whyP_c b0 c0 false true z0 1 rs o hI m
  have hpx := px_e1.2 E1
  have hf0 : 0 < fairV (vals rs) o := by
    unfold fairV
    rw [if_neg (by simpa using hd), hpx, if_neg (by simp)]
    split <;> omega
  have hw13 : (whyV (vals rs) o).2.2 = 13 := by
    unfold whyV
    rw [if_neg (by simpa using hd), hpx]
  rw [hw13] at hwhy
  rw [hd] at hfair
  have hpv : (VL b0 c0 z0 rs).pure = true := by simp only [LV.pure, pures_row]
  have hsame : clF LP n_law07_same [IL false true 1 o, SLo 2 L] P' = some (.P, .bool true, P') := by
    exact call_view lp_law07_same rfl (views_in P' (IL false true 1 o) _ _ _ [] (view_slo R1.h2 T1.len) (by simp [LV.pure]) rfl rfl (by simp)) (by simp [LV.pures, LV.pure]) (same_refl false true false true 1 1 o (by rw [T1.len]; omega) []) rfl
  have p1 := R1.h1
  have p3 := R1.h3
  have hn1 : ¬ P'.length ≤ 1 := by have := (List.getElem?_eq_some_iff.1 p1).1; omega
  have hn3 : ¬ P'.length ≤ 3 := by have := (List.getElem?_eq_some_iff.1 p3).1; omega
  have lSL : lenL (SLo 2 L) = some L := rfl
  have hpure : LV.pures [LV.agg (bys w)] = true := by simp only [LV.pures, LV.pure, hps, Bool.and_true]
  have hm : ∀ m, clF LP n_law07_Heap_made [.agg (bys w), .int .i64 4, .int .i64 6, .int .i64 20] m = some (.P, VL b0 c0 z0 rs, m) := hm
  have hrep := repeat_c L (by omega) [⟨bys w, true⟩, ⟨[VL b0 c0 z0 rs], true⟩]
  have hrep : clF LP n_slices_Repeat_int_int [.lst false true 1 1 [.int .i64 (-1)], .int .i64 (L : Int)] [⟨bys w, true⟩, ⟨[VL b0 c0 z0 rs], true⟩] = some (.O, SLo 2 L, [⟨bys w, true⟩, ⟨[VL b0 c0 z0 rs], true⟩, ⟨ints (nones L), true⟩]) := hrep
  have hof0 : ofAVs [.nilslice] = [.lst true true 0 0 []] := rfl
  have hcV : (VL b0 c0 z0 rs).cells = some [VL b0 c0 z0 rs] := rfl
  have hsV : LV.scalar (VL b0 c0 z0 rs) = true := rfl
  have hcS : (SLo 2 L).cells = some [SLo 2 L] := rfl
  have hsS : LV.scalar (SLo 2 L) = true := rfl
  have hca : ∀ cs, (LV.agg cs).cells = some cs := fun _ => rfl
  have hci : ∀ n : Int, (LV.int .i64 n).cells = some [.int .i64 n] := fun _ => rfl
  have hsi : ∀ n : Int, LV.scalar (.int .i64 n) = true := fun _ => rfl
  rw [Int.natCast_zero] at l3
  refine call_P lp_law07_ShareRings rfl hpure (m1 := P') ?_ rfl []
  generalize bys w = ww at *
  generalize IL false true 1 o = lq at *
  generalize ints (nones L) = no at *
  generalize (whyV (vals rs) o).1 = y1 at *
  generalize (whyV (vals rs) o).2.1 = y2 at *
  generalize fairV (vals rs) o = F at *
  generalize SLo 2 L = sl at *
  simp (maxSteps := 1000000) only [law07_ShareRings, law07_ShareRings.B, law07_ShareRings.B.R0, law07_ShareRings.B.R1, law07_ShareRings.B.R2, law07_ShareRings.B.R3, law07_ShareRings.B.R4, beqT, beqF, exF_seq, exF_region, exF_block, exF_cond, exF_ret, exF_exit, exF_skip, runL, wantL, stepL, evL, evC, LEnv.at, putL, loadFine, loadL, cellsAt, Trk.putNew, Trk.up, Trk.touch, Trk.gives, Trk.calm, Trk.hit, opdsOf, Trk.fresh, LEnv.keep, LEnv.ofFrom, List.map_cons, List.map_nil, nbeq, nble, nblt, ofAV, ofAVs, bin_add, bin_sub, bin_mul, bin_eql, bin_neq, bin_lss, bin_leq, bin_gtr, bin_geq, natL_nat, natL_zero, natL_one, natL_two, Nat.zero_mul, List.any_cons, List.any_nil, Bool.or_false, Bool.false_or, Bool.true_or, Bool.or_true, Bool.and_true, Bool.true_and, Bool.and_false, Bool.false_and, Bool.not_true, Bool.not_false, Nat.reduceBEq, Nat.reduceEqDiff, decide_true, decide_false, cond_true, cond_false, List.filter_nil, List.filter_cons, Nat.reduceAdd, Nat.reduceLeDiff, reduceCtorEq, List.length_nil, List.length_cons, Nat.mul_one, if_true, if_false, Bool.false_eq_true, eq_self, and_true, true_and, retL, resultsL, resAllL, resOfL, List.append_nil, List.nil_append, List.cons_append, true_or, or_true, false_or, or_false, false_and, and_false, not_true_eq_false, not_false_eq_true, ne_eq, unL, trim_nil, views_pures, LV.pures, LV.pure, freeze, Nat.reduceDiv, Int.reduceEq, Int.reduceLT, Int.reduceLE, Int.natCast_zero, allocL, List.getElem?_cons_zero, List.getElem?_cons_succ, storeL, spliceL, List.take_zero, List.take_succ_cons, List.drop_zero, List.drop_succ_cons, List.drop_nil, List.take_nil, Nat.le_refl, Nat.reduceMul, List.set_cons_zero, List.set_cons_succ, List.all_cons, List.all_nil, Nat.lt_add_one, Nat.zero_lt_one, Nat.reduceLT, Nat.lt_irrefl, fillL, List.length_append, foldIntL, kind_beq, pures_int, solids_int, plains_int, unders_int, scalars_int, hbl, htk, hm, hof0, hcV, hsV, hcS, hsS, hca, hci, hsi, hpos, hrow0, hlen0, hrep, lSL, l3, p1, p3, hn1, hn3, hrP, hsame, hfair, hwhy, hf0, gt_iff_lt, works_c]
end Go.Am.Share

/-
  THE JOIN: arguments that came in, as the list machine's lists; what the list machine's answer says of the model's call.
-/
set_option linter.unusedVariables false
namespace Go.Am
variable [Glo]
open Go.RowKit

def Placed (ρ : PM) (b : Nat) (ps : List Place) : Prop := ∀ (i : Nat) (p : Place), ps[i]? = some p → ρ (b + i) = some p
def Shows (s : Sit) (b : Nat) (bl : List (List AV)) : Prop := ∀ (i : Nat) (cs : List AV), bl[i]? = some cs → s.A (b + i) ∧ s.am.look (b + i) = some ⟨cs, false⟩

/-- An argument that reads as a value of the list machine. -/
def ArgOk (w : World) (v : Value) (lv : LV) : Prop :=
  ∃ (bl : Nat → List (List AV)) (ps : List Place) (av : Nat → AV), (∀ b, (bl b).length = ps.length) ∧
    (∀ (ρ : PM) (b : Nat), Placed ρ b ps → VR ρ (av b) v ∧ ∀ (i : Nat) (cs : List AV) (p : Place), (bl b)[i]? = some cs → ps[i]? = some p → CellsAt ρ w cs p) ∧
    (∀ (s : Sit) (b : Nat), Shows s b (bl b) → LR s lv (av b))
inductive ArgsOk (w : World) : List Value → List LV → Prop
  | nil : ArgsOk w [] []
  | cons {v : Value} {lv : LV} {vs : List Value} {lvs : List LV} (h : ArgOk w v lv) (hr : ArgsOk w vs lvs) : ArgsOk w (v :: vs) (lv :: lvs)

omit [Glo] in
theorem append_get {α : Type} (a b : List α) (i : Nat) (x : α) (h : (a ++ b)[i]? = some x) : (i < a.length ∧ a[i]? = some x) ∨ (a.length ≤ i ∧ b[i - a.length]? = some x) := by
  by_cases hi : i < a.length
  · rw [List.getElem?_append_left hi] at h; exact .inl ⟨hi, h⟩
  · rw [List.getElem?_append_right (by omega)] at h; exact .inr ⟨by omega, h⟩

omit [Glo] in
theorem args_all {w : World} : ∀ {vs : List Value} {lvs : List LV}, ArgsOk w vs lvs → ∃ (bl : Nat → List (List AV)) (ps : List Place) (avs : Nat → List AV), (∀ b, (bl b).length = ps.length) ∧
    (∀ (ρ : PM) (b : Nat), Placed ρ b ps → VRs ρ (avs b) vs ∧ ∀ (i : Nat) (cs : List AV) (p : Place), (bl b)[i]? = some cs → ps[i]? = some p → CellsAt ρ w cs p) ∧
    (∀ (s : Sit) (b : Nat), Shows s b (bl b) → LRs s lvs (avs b))
  | _, _, .nil => ⟨fun _ => [], [], fun _ => [], fun _ => rfl, fun ρ b _ => ⟨.nil, fun i cs p h => by simp at h⟩, fun s b _ => .nil⟩
  | _, _, .cons h hr => by
    obtain ⟨bl1, ps1, av1, a1, a2, a3⟩ := h
    obtain ⟨bl2, ps2, av2, b1, b2, b3⟩ := args_all hr
    refine ⟨fun b => bl1 b ++ bl2 (b + ps1.length), ps1 ++ ps2, fun b => av1 b :: av2 (b + ps1.length), fun b => by simp [a1, b1], fun ρ b hp => ?_, fun s b hs => ?_⟩
    · have hp1 : Placed ρ b ps1 := fun i p h => hp i p (by rw [List.getElem?_append_left (List.getElem?_eq_some_iff.1 h).1]; exact h)
      have hp2 : Placed ρ (b + ps1.length) ps2 := fun i p h => by
        have := hp (ps1.length + i) p (by rw [List.getElem?_append_right (by omega)]; simpa using h)
        rw [Nat.add_assoc]; exact this
      obtain ⟨c1, c2⟩ := a2 ρ b hp1
      obtain ⟨d1, d2⟩ := b2 ρ _ hp2
      refine ⟨.cons c1 d1, fun i cs p hcs hpp => ?_⟩
      rcases append_get _ _ _ _ hcs with ⟨e1, e2⟩ | ⟨e1, e2⟩
      · rw [a1] at e1
        rw [List.getElem?_append_left e1] at hpp
        exact c2 i cs p e2 hpp
      · rw [a1] at e1 e2
        rw [List.getElem?_append_right e1] at hpp
        exact d2 _ cs p e2 hpp
    · refine .cons (a3 s b fun i cs h => hs i cs (by rw [List.getElem?_append_left (List.getElem?_eq_some_iff.1 h).1]; exact h)) (b3 s _ fun i cs h => ?_)
      have := hs (ps1.length + i) cs (by rw [List.getElem?_append_right (by rw [a1]; omega)]; rw [a1]; simpa using h)
      rw [Nat.add_assoc]; exact this

/-- Where the package-level variables lie. -/
def gPlaces (n : Nat) : List Place := (List.range n).map fun g => ⟨g, 0, 0⟩
omit [Glo] in
theorem gPlaces_get {n g : Nat} {p : Place} (h : (gPlaces n)[g]? = some p) : p = ⟨g, 0, 0⟩ := by
  unfold gPlaces at h
  rw [List.getElem?_map] at h
  obtain ⟨x, hx, rfl⟩ := Option.map_eq_some_iff.1 h
  have hg := (List.getElem?_eq_some_iff.1 hx).1
  simp at hg
  rw [List.getElem?_range hg] at hx
  cases hx; rfl

/-- WHAT A LAW's WALK ASKS OF THE LIST MACHINE. -/
theorem law_glob {P : Program} {C : Prog} {LP : LProg} (hC : ProgOk C P) (hmix : P.follows .mixedOrders = true) (hL : ProgL LP C) {f : Nat} {lvs : List LV} {md : Mode} {m' : LMem} (h : clF LP f lvs [] = some (md, .bool true, m'))
    {w : World} {cargs : Array Value} (ha : ArgsOk w cargs.toList lvs) (gb : List (List AV)) (hgb : gb.length = P.globals.size) (hT : ∀ g l, Glo.tab g = some l → gb[g]? = some l) (hcell : ∀ (ρ : PM) (g : Nat) (cs : List AV), gb[g]? = some cs → CellsAt ρ w cs ⟨g, 0, 0⟩) :
    Calls P f cargs w fun e w' => e = .returned (.bool true) ∧ Below w.heap.size w w' := by
  obtain ⟨bl, ps, avs, h1, h2, h3⟩ := args_all ha
  obtain ⟨n, hn⟩ := clF_some.1 h
  generalize hN : gb.length = N at hgb
  generalize hall : gb ++ bl N = all
  have hget : ∀ (i : Nat) (cs : List AV), (bl N)[i]? = some cs → all[N + i]? = some cs := fun i cs hi => by
    rw [← hall, List.getElem?_append_right (by omega), hN, Nat.add_sub_cancel_left]; exact hi
  have hs : Shows ⟨[], memOf all, fun _ => 0, fun b => b < all.length⟩ N (bl N) := fun i cs hi =>
    ⟨(List.getElem?_eq_some_iff.1 (hget i cs hi)).1, by show (memOf all).look (N + i) = _; rw [memOf_look, hget i cs hi]; rfl⟩
  have hrel : Rel2 ⟨[], memOf all, fun _ => 0, fun b => b < all.length⟩ := by
    refine ⟨fun i b hb => by simp at hb, fun i j b b' hb => by simp at hb, fun b hb => ?_, fun b ab hb => ?_, fun g l hg => ?_⟩
    · have hb : b < all.length := hb
      exact ⟨⟨all[b], false⟩, by show (memOf all).look b = _; rw [memOf_look, List.getElem?_eq_getElem hb]; rfl⟩
    · have hb : (memOf all).look b = some ab := hb
      show b < (memOf all).next
      rw [memOf_next]
      rw [memOf_look] at hb
      obtain ⟨x, hx, _⟩ := Option.map_eq_some_iff.1 hb
      exact (List.getElem?_eq_some_iff.1 hx).1
    · have e : all[g]? = some l := by
        have := hT g l hg
        rw [← hall, List.getElem?_append_left (List.getElem?_eq_some_iff.1 this).1]; exact this
      exact ⟨(List.getElem?_eq_some_iff.1 e).1, by show (memOf all).look g = _; rw [memOf_look, e]; rfl⟩
  obtain ⟨av, am', h4, t, _, _, _, _, h5, _⟩ := callL_sound hL n f lvs [] md (.bool true) m' hn _ (avs N) rfl hrel (h3 _ N hs)
  cases h5
  generalize hpl : gPlaces N ++ ps = pl
  have hgl : (gPlaces N).length = N := by simp [gPlaces]
  have hplaced : Placed (placesOf pl) N ps := fun i p hp => by
    show pl[N + i]? = some p
    rw [← hpl, List.getElem?_append_right (by omega), hgl, Nat.add_sub_cancel_left]; exact hp
  obtain ⟨h6, h7⟩ := h2 (placesOf pl) N hplaced
  refine law_calls hC hmix (l := all) (ps := pl) h4 (by rw [← hall, ← hpl, List.length_append, List.length_append, h1, hgl, hN]) (fun i cs p hcs hp => ?_) h6 fun g hg => ?_
  · rw [← hall] at hcs
    rw [← hpl] at hp
    rcases append_get _ _ _ _ hcs with ⟨e1, e2⟩ | ⟨e1, e2⟩
    · rw [List.getElem?_append_left (by omega)] at hp
      rw [gPlaces_get hp]
      exact hcell _ i cs e2
    · rw [List.getElem?_append_right (by omega), hgl] at hp
      rw [hN] at e2
      exact h7 _ cs p e2 hp
  · have hg : g < N := by omega
    refine ⟨⟨g, 0, 0⟩, ?_, rfl, rfl⟩
    show pl[g]? = _
    rw [← hpl, List.getElem?_append_left (by omega)]
    simp [gPlaces, hg]

theorem law_list {P : Program} {C : Prog} {LP : LProg} (hC : ProgOk C P) (hmix : P.follows .mixedOrders = true) (hL : ProgL LP C) {f : Nat} {lvs : List LV} {md : Mode} {m' : LMem} (h : clF LP f lvs [] = some (md, .bool true, m')) (hG : P.globals.size = 0) (hT : ∀ g, Glo.tab g = none)
    {w : World} {cargs : Array Value} (ha : ArgsOk w cargs.toList lvs) : Calls P f cargs w fun e w' => e = .returned (.bool true) ∧ Below w.heap.size w w' :=
  law_glob hC hmix hL h ha [] (by simp [hG]) (fun g l hg => by rw [hT g] at hg; cases hg) (fun ρ g cs hg => by simp at hg)
end Go.Am

/-
  THE JOIN, 2: lists of numbers, and lists of lists, that came in.
-/
set_option linter.unusedVariables false
namespace Go.Am
variable [Glo]
open Go.ChangeShapes Go.RowKit Go.Deep

end Go.Am

/-
  THE JOIN, 3: arguments read behind the call as before it.
-/
set_option linter.unusedVariables false
namespace Go.Am
variable [Glo]
open Go.RowKit
omit [Glo] in
theorem trodAll_below {H : Type} {enc : TypeId × Value → H} {P : Program} {W W' : World} (hl : laidOutB P = true) (hb : Below W.heap.size W W') : ∀ {ts : List TypeId} {vs : List Value} {ds : List (DataW H)} {ps : List MemPlace}, (ts.all fun t => P.readableRec t && decide (t < P.types.size)) = true →
    DataW.TrodAll enc P W 0 (fun _ => true) true ts vs ds ps → (∀ x ∈ ps, x.block < W.heap.size) → DataW.TrodAll enc P W' 0 (fun b => decide (b < W.heap.size)) true ts vs ds ps
  | [], [], [], _, _, h, _ => h
  | t :: ts, v :: vs, d :: ds, ps, hr, ⟨p, q, h1, h2, e⟩, hlt => by
    simp only [List.all_cons, Bool.and_eq_true, decide_eq_true_eq] at hr
    subst e
    exact ⟨p, q, Below.trod hl hr.1.1 hr.1.2 h1 hb (fun x hx => hlt x (List.mem_append_left _ hx)), trodAll_below hl hb hr.2 h2 (fun x hx => hlt x (List.mem_append_right _ hx)), rfl⟩
end Go.Am

/-
  THE JOIN, 4: structs of bytes that came in.
-/
set_option linter.unusedVariables false
namespace Go.Am
variable [Glo]
open Go.RowKit

/-! ### Types that hold bytes alone -/
def sumPc : Nat → List (Nat × Nat) → Option Nat
  | off, [] => some off
  | off, (o, k) :: r => cond (Nat.beq o off) (sumPc (off + k) r) none
def pcsF (P : Program) (g : TypeId → Option Nat) : List Field → Option (List (Nat × Nat))
  | [] => some []
  | f :: r => match g f.type with
    | some k => match pcsF P g r with
      | some l => cond (Nat.beq (P.cellsOf f.type) k) (some ((f.offset, k) :: l)) none
      | none => none
    | none => none
/-- How many bytes. -/
def u8T (P : Program) : Nat → TypeId → Option Nat
  | 0, _ => none
  | n + 1, t => match P.underlying t with
    | some (.int .u8) => some 1
    | some (.array m e) => match u8T P n e with
      | some k => cond (Nat.beq (P.cellsOf e) k && Nat.beq (P.cellsOf t) (m * k)) (some (m * k)) none
      | none => none
    | some (.struct fs) => match pcsF P (u8T P n) fs.toList with
      | some l => match sumPc 0 l with
        | some k => cond (Nat.beq (P.cellsOf t) k) (some k) none
        | none => none
      | none => none
    | _ => none
def U8s (cs : List Value) : Prop := ∀ (i : Nat) (v : Value), cs[i]? = some v → ∃ n : Int, v = .int .u8 n ∧ (Lit.int .u8 n).wf = true

omit [Glo] in
theorem sumPc_in : ∀ (l : List (Nat × Nat)) (off tot : Nat), sumPc off l = some tot → ∀ i, off ≤ i → i < tot → ∃ p ∈ l, p.1 ≤ i ∧ i < p.1 + p.2
  | [], off, tot, h, i, h1, h2 => by simp only [sumPc, Option.some.injEq] at h; omega
  | (o, k) :: r, off, tot, h, i, h1, h2 => by
    simp only [sumPc] at h
    cases c : Nat.beq o off <;> rw [c] at h
    · cases h
    · have e : o = off := by simpa using c
      subst e
      by_cases hi : i < o + k
      · exact ⟨(o, k), by simp, h1, hi⟩
      · obtain ⟨p, hp, h3⟩ := sumPc_in r _ _ h i (by omega) h2
        exact ⟨p, by simp [hp], h3⟩
omit [Glo] in
theorem pcsF_in {P : Program} {g : TypeId → Option Nat} : ∀ (fs : List Field) (l : List (Nat × Nat)), pcsF P g fs = some l → ∀ p ∈ l, ∃ (i : Nat) (f : Field), fs[i]? = some f ∧ f.offset = p.1 ∧ g f.type = some p.2 ∧ P.cellsOf f.type = p.2
  | [], l, h, p, hp => by simp only [pcsF, Option.some.injEq] at h; subst h; cases hp
  | f :: r, l, h, p, hp => by
    simp only [pcsF] at h
    split at h
    · rename_i k hk
      split at h
      · rename_i l' hl'
        cases c : Nat.beq (P.cellsOf f.type) k <;> rw [c] at h
        · cases h
        · simp only [cond_true, Option.some.injEq] at h
          subst h
          rcases List.mem_cons.1 hp with rfl | hp
          · exact ⟨0, f, rfl, rfl, hk, by simpa using c⟩
          · obtain ⟨i, f', h1, h2⟩ := pcsF_in r l' hl' p hp
            exact ⟨i + 1, f', by simpa using h1, h2⟩
      · cases h
    · cases h

section
variable {H : Type} {enc : TypeId × Value → H} {P : Program} {w : World} {base : Nat} {sp : Nat → Bool} {held : Bool}
omit [Glo] in
theorem u8T_ok : ∀ (n : Nat) (t : TypeId) (fuel : Nat) (cs : List Value) (x : DataW H × List MemPlace) (k : Nat), u8T P n t = some k → DataW.trod enc P w base sp held fuel t cs = some x → U8s cs ∧ cs.length = k
  | 0, _, _, _, _, _, h, _ => by cases h
  | n + 1, t, fuel, cs, x, k, h, hx => by
    simp only [u8T] at h
    split at h
    · rename_i ht
      cases h
      obtain ⟨a, rfl, _, hw⟩ := DataW.trod_int ht hx
      refine ⟨fun i v hv => ?_, rfl⟩
      match i with
      | 0 => simp at hv; subst hv; exact ⟨a, rfl, hw⟩
      | i + 1 => simp at hv
    · rename_i m e ht
      split at h
      · rename_i k' hk'
        cases c : (Nat.beq (P.cellsOf e) k' && Nat.beq (P.cellsOf t) (m * k')) <;> rw [c] at h
        · cases h
        · simp only [cond_true, Option.some.injEq] at h
          subst h
          simp only [Bool.and_eq_true] at c
          have c1 : P.cellsOf e = k' := by simpa using c.1
          have c2 : P.cellsOf t = m * k' := by simpa using c.2
          obtain ⟨xs, m', _, _, hl, hxl, hf⟩ := DataW.trod_array ht hx
          rw [c2] at hl
          refine ⟨fun i v hv => ?_, hl⟩
          have hi : i < m * k' := by rw [← hl]; exact (List.getElem?_eq_some_iff.1 hv).1
          have hk0 : 0 < k' := by
            rcases Nat.eq_zero_or_pos k' with e0 | e0
            · rw [e0] at hi; simp at hi
            · exact e0
          have h1 : i / k' < m := (Nat.div_lt_iff_lt_mul hk0).2 hi
          have h2 : i % k' < k' := Nat.mod_lt _ hk0
          have h3 : (i / k') * k' + i % k' = i := by rw [Nat.mul_comm]; exact Nat.div_add_mod i k'
          have h4 := hf (i / k') h1
          rw [c1] at h4
          obtain ⟨y, hy⟩ : ∃ y, xs[i / k']? = some y := ⟨xs[i / k']'(by omega), List.getElem?_eq_getElem (by omega)⟩
          rw [hy] at h4
          obtain ⟨h5, _⟩ := u8T_ok n e m' _ y k' hk' h4
          refine h5 (i % k') v ?_
          rw [List.getElem?_take, if_pos h2, List.getElem?_drop, h3]
          exact hv
      · cases h
    · rename_i fs ht
      split at h
      · rename_i l hl'
        split at h
        · rename_i k' hk'
          cases c : Nat.beq (P.cellsOf t) k' <;> rw [c] at h
          · cases h
          · simp only [cond_true, Option.some.injEq] at h
            subst h
            have c2 : P.cellsOf t = k' := by simpa using c
            obtain ⟨xs, m', _, _, hl, hxl, hf⟩ := DataW.trod_struct ht hx
            rw [c2] at hl
            refine ⟨fun i v hv => ?_, hl⟩
            have hi : i < k' := by rw [← hl]; exact (List.getElem?_eq_some_iff.1 hv).1
            obtain ⟨p, hp, p1, p2⟩ := sumPc_in l 0 k' hk' i (Nat.zero_le _) hi
            obtain ⟨j, f, f1, f2, f3, f4⟩ := pcsF_in _ _ hl' p hp
            have f1' : fs[j]? = some f := by simpa using f1
            have hj : j < fs.size := (Array.getElem?_eq_some_iff.1 f1').1
            have h4 := hf j f f1'
            rw [f4, f2] at h4
            obtain ⟨y, hy⟩ : ∃ y, xs[j]? = some y := ⟨xs[j]'(by omega), List.getElem?_eq_getElem (by omega)⟩
            rw [hy] at h4
            obtain ⟨h5, _⟩ := u8T_ok n f.type m' _ y p.2 f3 h4
            refine h5 (i - p.1) v ?_
            rw [List.getElem?_take, if_pos (by omega), List.getElem?_drop, show p.1 + (i - p.1) = i by omega]
            exact hv
        · cases h
      · cases h
    · cases h

omit [Glo] in
theorem u8s_list : ∀ {cs : List Value}, U8s cs → ∃ ns : List Int, cs = ns.map (Value.int .u8) ∧ ∀ n ∈ ns, 0 ≤ n ∧ n < 256
  | [], _ => ⟨[], rfl, by simp⟩
  | v :: r, h => by
    obtain ⟨n, rfl, hw⟩ := h 0 v rfl
    obtain ⟨ns, e, hb⟩ := u8s_list (cs := r) fun i v hv => h (i + 1) v (by simpa using hv)
    refine ⟨n :: ns, by rw [e]; rfl, ?_⟩
    intro x hx
    rcases List.mem_cons.1 hx with rfl | hx
    · have := bounds_u8 hw; omega
    · exact hb x hx

omit [Glo] in
theorem argOk_bytes (w : World) (ns : List Int) : ArgOk w (.agg (ns.map (Value.int .u8)).toArray) (.agg (ns.map (LV.int .u8))) := by
  refine ⟨fun _ => [], [], fun _ => .agg (ns.map (AV.int .u8)), fun _ => rfl, fun ρ b _ => ⟨.agg ?_, fun i cs p h => by simp at h⟩, fun s b _ => .agg ?_⟩
  · show VRs ρ _ (ns.map (Value.int .u8)).toArray.toList
    simp only []
    induction ns with
    | nil => exact .nil
    | cons n r ih => exact .cons (.int _ _) ih
  · exact LRs.map _ fun x _ => .int _ _

omit [Glo] in
/-- A struct of bytes among the arguments. -/
theorem argOk_struct {r : Reach} {b0 n k : Nat} {t : TypeId} {fs : Array Field} {v : Value} {d : DataW H} {ps : List MemPlace} (ht : P.underlying t = some (.struct fs)) (hk : u8T P n t = some k)
    (hval : Value.okWide P w r b0 t v) (hd : DataW.Trod enc P w base sp held t v d ps) :
    ∃ ns : List Int, ns.length = k ∧ (∀ n ∈ ns, 0 ≤ n ∧ n < 256) ∧ ArgOk w v (.agg (ns.map (LV.int .u8))) := by
  obtain ⟨cs, rfl, _⟩ := Go.WideShapes.okWide_struct ht hval
  obtain ⟨fuel, hf⟩ := hd
  obtain ⟨h1, h2⟩ := u8T_ok n t fuel _ _ k hk hf
  obtain ⟨ns, e, hb⟩ := u8s_list h1
  have e' : cs = (ns.map (Value.int .u8)).toArray := by
    apply Array.ext'
    simpa [Value.cells] using e
  subst e'
  refine ⟨ns, ?_, hb, argOk_bytes w ns⟩
  simpa [Value.cells] using h2
end
end Go.Am


