/-
  What functions of chapter 04 compute, 10: what is sure.
-/
import Derived.Test.YtheppipmnfjdcaaRingC9
set_option linter.unusedVariables false
set_option linter.unusedSimpArgs false
set_option maxRecDepth 10000
namespace Go.Am.Ring
open Go.Am.G

theorem trim_get (k : Nat) (vs : List LV) (m : LMem) (i : Nat) (h : i < k) : (trim k vs m)[i]? = m[i]? := by
  unfold trim
  cases LV.unders k vs && belowM k (m.take k)
  · rfl
  · simp [h]
theorem under_of_unders (k : Nat) : ∀ (vs : List LV), LV.unders k vs = true → ∀ v ∈ vs, LV.under k v = true
  | [], _, v, hv => by simp at hv
  | a :: r, h, v, hv => by
    simp only [LV.unders, Bool.and_eq_true] at h
    rcases List.mem_cons.1 hv with rfl | hv
    · exact h.1
    · exact under_of_unders k r h.2 v hv
theorem trim_keep (k : Nat) (vs : List LV) (m : LMem) (v : LV) (i : Nat) (hv : v ∈ vs) (hb : isBlk v i) : (trim k vs m)[i]? = m[i]? := by
  unfold trim
  cases h : LV.unders k vs && belowM k (m.take k)
  · rfl
  · simp only [Bool.and_eq_true] at h
    have := under_of_unders k vs h.1 v hv
    have hik : i < k := by
      cases v <;> simp [isBlk] at hb
      subst hb
      simpa [LV.under, nblt] using this
    simp [hik]
theorem lst_trim {m : LMem} {v : LV} {sz n : Nat} {cs : List LV} (h : Lst m v sz n cs) (k : Nat) (vs : List LV) (hv : v ∈ vs) : Lst (trim k vs m) v sz n cs := h.mono fun i hi => trim_keep k vs m v i hv hi
theorem freeze_cells (i : Nat) : ∀ (ids : List Nat) (m : LMem) (cs : List LV) (w : Bool), m[i]? = some ⟨cs, w⟩ → ∃ w', (freeze ids m)[i]? = some ⟨cs, w'⟩
  | [], m, cs, w, h => ⟨w, by rw [freeze_nil]; exact h⟩
  | j :: ids, m, cs, w, h => by
    have e : freeze (j :: ids) m = freeze ids (match m[j]? with | some b => m.set j ⟨b.cells, false⟩ | none => m) := rfl
    rw [e]
    cases hj : m[j]? with
    | none => exact freeze_cells i ids m cs w h
    | some b =>
      simp only
      by_cases c : j = i
      · subst c
        rw [h] at hj
        cases hj
        have hl : j < m.length := by
          rcases Nat.lt_or_ge j m.length with c | c
          · exact c
          · rw [List.getElem?_eq_none c] at h; cases h
        exact freeze_cells j ids _ cs false (by simp [hl])
      · exact freeze_cells i ids _ cs w (by rw [List.getElem?_set, if_neg c]; exact h)
theorem call_shown2 {C : LProg} {f : Nat} {lf : LFunc} (hC : C f = some lf) (hm : lf.mode = .P) {args vs : List LV} {ids : List Nat} {m : LMem} (hv : views m args = some (vs, ids)) (hp : LV.pures vs = true) {v : LV} (hc : clF C f vs [] = some (.P, v, [])) :
    ∃ m', clF C f args m = some (.P, v, m') ∧ (∀ i, i ∉ ids → m'[i]? = m[i]?) ∧ m'.length = m.length ∧ (∀ (i : Nat) cs w, m[i]? = some ⟨cs, w⟩ → ∃ w', m'[i]? = some ⟨cs, w'⟩) := by
  rw [clF_eq, hC] at hc ⊢
  simp only [callMode, hm, views_pures [] vs hp, hv] at hc ⊢
  split at hc
  · rename_i v1 m1 hr
    split at hc
    · rename_i v2 ids1 hv2
      simp only [Option.some.injEq, Prod.mk.injEq] at hc
      obtain ⟨_, rfl, _⟩ := hc
      refine ⟨_, rfl, fun i hi => ?_, ?_, fun i cs w h => ?_⟩
      · cases (ids.isEmpty || (v2.plain || newIds v1 m1 ids1))
        · exact G.freeze_get i ids m hi
        · rfl
      · cases (ids.isEmpty || (v2.plain || newIds v1 m1 ids1))
        · exact G.freeze_length ids m
        · rfl
      · cases (ids.isEmpty || (v2.plain || newIds v1 m1 ids1))
        · exact freeze_cells i ids m cs w h
        · exact ⟨w, h⟩
    · cases hc
  · cases hc

def mayAB (a b : Nat) (f d : Nat) : Bool := !decide (f = a) || d.testBit b
theorem mayAB_c (a b f d : Nat) (hb : b < 6) (hd : d < 64) (m : LMem) : clF LP n_ring_Sure_1 [.int .i64 (f : Int), .int .i64 (d : Int), .elt [.int .i64 (a : Int)] 0, .elt [.int .i64 (b : Int)] 0] m = some (.P, .bool (mayAB a b f d), m) := by
  refine call_P lp_ring_Sure_1 rfl (by simp [LV.pures, LV.pure]) (m1 := []) ?_ rfl m
  have h1 := sshr (a := d) (i := b) (by omega)
  have h2 := sand1 (a := d / 2 ^ b) (Nat.lt_of_le_of_lt (Nat.div_le_self _ _) (by omega))
  have hbd := bit_dec d b
  unfold mayAB
  by_cases c : f = a
  · subst c
    simp only [ring_Sure_1, ring_Sure_1.B, beqT, beqF, exF_seq, exF_region, exF_block, exF_cond, exF_ret, exF_exit, exF_skip, runL, wantL, stepL, evL, evC, LEnv.at, putL, loadFine, loadL, cellsAt, Trk.putNew, Trk.up, Trk.touch, Trk.gives, Trk.calm, Trk.hit, opdsOf, Trk.fresh, LEnv.keep, LEnv.ofFrom, List.map_cons, List.map_nil, nbeq, nble, nblt, ofAV, ofAVs, lenL, bin_add, bin_sub, bin_mul, bin_eql, bin_neq, bin_lss, bin_leq, bin_gtr, bin_geq, natL_nat, natL_zero, natL_one, natL_two, Nat.zero_mul, List.any_cons, List.any_nil, Bool.or_false, Bool.false_or, Bool.true_or, Bool.or_true, Bool.and_true, Bool.true_and, Bool.and_false, Bool.false_and, Bool.not_true, Bool.not_false, Nat.reduceBEq, Nat.reduceEqDiff, decide_true, decide_false, cond_true, cond_false, List.filter_nil, List.filter_cons, Nat.reduceAdd, Nat.reduceLeDiff, reduceCtorEq, List.length_nil, List.length_cons, Nat.mul_one, if_true, if_false, Bool.false_eq_true, eq_self, and_true, true_and, retL, resultsL, resAllL, resOfL, List.append_nil, List.nil_append, List.cons_append, true_or, or_true, false_or, or_false, false_and, and_false, not_true_eq_false, not_false_eq_true, ne_eq, unL, trim_nil, views_pures, LV.pures, LV.pure, freeze, Nat.reduceDiv, Int.reduceEq, Int.reduceLT, Int.reduceLE, Int.natCast_zero, LV.cells, allocL, List.getElem?_cons_zero, List.getElem?_cons_succ, storeL, spliceL, List.take_zero, List.take_succ_cons, List.drop_zero, List.drop_succ_cons, List.drop_nil, List.take_nil, Nat.le_refl, Nat.reduceMul, List.set_cons_zero, List.set_cons_succ, LV.scalar, List.all_cons, List.all_nil, Nat.lt_add_one, Nat.zero_lt_one, Nat.reduceLT, Nat.lt_irrefl, fillL, List.length_append, foldIntL, kind_beq, pures_int, solids_int, plains_int, unders_int, scalars_int, h1, h2, hbd]
  · have c' : ¬ (f : Int) = (a : Int) := by omega
    simp only [ring_Sure_1, ring_Sure_1.B, beqT, beqF, exF_seq, exF_region, exF_block, exF_cond, exF_ret, exF_exit, exF_skip, runL, wantL, stepL, evL, evC, LEnv.at, putL, loadFine, loadL, cellsAt, Trk.putNew, Trk.up, Trk.touch, Trk.gives, Trk.calm, Trk.hit, opdsOf, Trk.fresh, LEnv.keep, LEnv.ofFrom, List.map_cons, List.map_nil, nbeq, nble, nblt, ofAV, ofAVs, lenL, bin_add, bin_sub, bin_mul, bin_eql, bin_neq, bin_lss, bin_leq, bin_gtr, bin_geq, natL_nat, natL_zero, natL_one, natL_two, Nat.zero_mul, List.any_cons, List.any_nil, Bool.or_false, Bool.false_or, Bool.true_or, Bool.or_true, Bool.and_true, Bool.true_and, Bool.and_false, Bool.false_and, Bool.not_true, Bool.not_false, Nat.reduceBEq, Nat.reduceEqDiff, decide_true, decide_false, cond_true, cond_false, List.filter_nil, List.filter_cons, Nat.reduceAdd, Nat.reduceLeDiff, reduceCtorEq, List.length_nil, List.length_cons, Nat.mul_one, if_true, if_false, Bool.false_eq_true, eq_self, and_true, true_and, retL, resultsL, resAllL, resOfL, List.append_nil, List.nil_append, List.cons_append, true_or, or_true, false_or, or_false, false_and, and_false, not_true_eq_false, not_false_eq_true, ne_eq, unL, trim_nil, views_pures, LV.pures, LV.pure, freeze, Nat.reduceDiv, Int.reduceEq, Int.reduceLT, Int.reduceLE, Int.natCast_zero, LV.cells, allocL, List.getElem?_cons_zero, List.getElem?_cons_succ, storeL, spliceL, List.take_zero, List.take_succ_cons, List.drop_zero, List.drop_succ_cons, List.drop_nil, List.take_nil, Nat.le_refl, Nat.reduceMul, List.set_cons_zero, List.set_cons_succ, LV.scalar, List.all_cons, List.all_nil, Nat.lt_add_one, Nat.zero_lt_one, Nat.reduceLT, Nat.lt_irrefl, fillL, List.length_append, foldIntL, kind_beq, pures_int, solids_int, plains_int, unders_int, scalars_int, c', c]
abbrev tabS (n : Nat) (P : List (Nat × Nat)) (a b : Nat) : List LV := tabV n P (mayAB a b) n_ring_Sure_1 [] [.elt [.int .i64 (a : Int)] 0, .elt [.int .i64 (b : Int)] 0]
theorem filledS_c (n : Nat) (P : List (Nat × Nat)) (G : Good n P) (nl ex : Bool) (sz : Nat) (a b : Nat) (hb : b < n) (m : LMem) :
    clF LP n_ring_filled [.int .i64 (n : Int), FN nl ex sz P, .func n_ring_Sure_1 [] [.elt [.int .i64 (a : Int)] 0, .elt [.int .i64 (b : Int)] 0]] m = some (.P, .elt (tabS n P a b) 0, m) := by
  have h6 := G.le6
  have hS64 : 2 ^ n ≤ 64 := Nat.pow_le_pow_right (n := 2) (by omega) h6
  exact filled_c n P G nl ex sz n_ring_Sure_1 [] _ ⟨rfl, by simp [LV.pures, LV.pure]⟩ rfl (mayAB a b) (fun f d m hf hd => mayAB_c a b f d (by omega) (by omega) m) m
theorem view_box (k : Nat) (m : LMem) (i : Nat) (x : Int) (w : Bool) (h : m[i]? = some ⟨[.int .i64 x], w⟩) : view (k + 3) m (.ptr i 0 1) = some (.elt [.int .i64 x] 0, [i]) := by
  simp only [view, h, viewL_pures _ _ _ (show LV.pures [LV.int .i64 x] = true from rfl), nbeq, List.length_cons, List.length_nil, decide_true, cond_true]
theorem views_S (m : LMem) (n : Int) (fl : LV) (hf : fl.pure = true) (g ia ib : Nat) (a b : Int) (wa wb : Bool) (ha : m[ia]? = some ⟨[.int .i64 a], wa⟩) (hb : m[ib]? = some ⟨[.int .i64 b], wb⟩) :
    views m [.int .i64 n, fl, .func g [] [.ptr ia 0 1, .ptr ib 0 1]] = some ([.int .i64 n, fl, .func g [] [.elt [.int .i64 a] 0, .elt [.int .i64 b] 0]], [ia, ib]) := by
  show viewL 100 m _ = _
  rw [viewL.eq_def]
  simp only [show LV.pures [.int .i64 n, fl, .func g [] [.ptr ia 0 1, .ptr ib 0 1]] = false by simp [LV.pures, LV.pure], cond_false]
  rw [viewC.eq_def]
  simp only [view_pure 96 m (.int .i64 n) rfl]
  rw [viewC.eq_def]
  simp only [view_pure 95 m fl hf]
  rw [viewC.eq_def]
  simp only [show view 96 m (.func g [] [.ptr ia 0 1, .ptr ib 0 1]) = some (.func g [] [.elt [.int .i64 a] 0, .elt [.int .i64 b] 0], [ia, ib]) by
    have h2 : viewL 95 m [.ptr ia 0 1, .ptr ib 0 1] = some ([.elt [.int .i64 a] 0, .elt [.int .i64 b] 0], [ia, ib]) := by
      rw [viewL.eq_def]
      simp only [show LV.pures [.ptr ia 0 1, .ptr ib 0 1] = false from rfl, cond_false]
      rw [viewC.eq_def]
      simp only [view_box 90 m ia a wa ha]
      rw [viewC.eq_def]
      simp only [view_box 89 m ib b wb hb]
      rw [viewC.eq_def]
      rfl
    rw [view.eq_def]
    simp only [h2, viewL_pures _ _ [] rfl]
    rfl]
  rw [viewC.eq_def]
  rfl
end Go.Am.Ring

