/-
  What functions of chapter 12 compute, 11: the reference's lists that guard, and the smallest ones.
-/
import Derived.Test.YthnaeifkngeenaaPostP7
set_option linter.unusedVariables false
set_option linter.unusedSimpArgs false
set_option maxRecDepth 10000
namespace Go.Am.Post
open Go.Am.G

theorem one_app {m : LMem} {v : LV} {out : List (List Nat)} (h : Lst m v 1 out.length (rowsL out)) (l : List Nat) (hl : out.length < 1000000) :
    ∃ v' m', appendL m 1 24 v (.lst false true 1 1 [RLn l]) = some (v', m') ∧ Lst m' v' 1 (out ++ [l]).length (rowsL (out ++ [l])) := by
  obtain ⟨v', m', h1, h2, _⟩ := h.append (x := .lst false true 1 1 [RLn l]) (k := 1) (bytes := 24) (news := [RLn l]) rfl rfl (by omega) (by omega) rfl
  refine ⟨v', m', h1, ?_⟩
  have e : rowsL (out ++ [l]) = rowsL out ++ [RLn l] := by simp [rowsL]
  rw [e, List.length_append]
  exact h2
theorem guarding_loop (nl ex : Bool) (sz : Nat) {s : List Int} (K : OkS s) (a b : Bool) (L : List (List Nat)) (hL : ∀ l ∈ L, l ∈ asc 0 s.length) (hlen : L.length ≤ 2000) (n : Nat) : ∀ (i : Nat) (m : LMem) (v : LV) (out : List (List Nat)), i + n = L.length → Lst m v 1 out.length (rowsL out) → out.length ≤ i →
    ∃ v' m', exF LP ref12_guarding.L0 [(0, IL nl ex sz s), (3, v), (4, .lst a b 1 L.length (rowsL L)), (5, .int .i64 (i : Int))] m = some (.exit 0, [(3, v')], m') ∧ Lst m' v' 1 (out ++ (L.drop i).filter (grdB s)).length (rowsL (out ++ (L.drop i).filter (grdB s))) := by
  induction n with
  | zero =>
    intro i m v out hi hv ho
    refine ⟨v, m, ?_, by rw [List.drop_eq_nil_of_le (by omega), List.filter_nil, List.append_nil]; exact hv⟩
    rw [ref12_guarding.L0_eq]
    simp only [ref12_guarding.B0, beqT, beqF, exF_seq, exF_region, exF_block, exF_cond, exF_ret, exF_exit, exF_skip, runL, wantL, stepL, evL, LEnv.at, putL, loadFine, loadL, cellsAt, Trk.putNew, Trk.up, Trk.touch, Trk.gives, Trk.calm, Trk.hit, opdsOf, Trk.fresh, LEnv.keep, LEnv.ofFrom, List.map_cons, List.map_nil, nbeq, nble, nblt, ofAV, ofAVs, lenL, bin_add, bin_sub, bin_mul, bin_eql, bin_neq, bin_lss, bin_leq, bin_gtr, bin_geq, natL_nat, natL_zero, natL_one, natL_two, Nat.zero_mul, List.any_cons, List.any_nil, Bool.or_false, Bool.false_or, Bool.true_or, Bool.or_true, Bool.and_true, Bool.true_and, Bool.and_false, Bool.false_and, Bool.not_true, Bool.not_false, Nat.reduceBEq, Nat.reduceEqDiff, decide_true, decide_false, cond_true, cond_false, List.filter_nil, List.filter_cons, Nat.reduceAdd, Nat.reduceLeDiff, reduceCtorEq, List.length_nil, List.length_cons, Nat.mul_one, if_true, if_false, Bool.false_eq_true, eq_self, and_true, true_and, retL, resultsL, resAllL, resOfL, List.append_nil, List.nil_append, List.cons_append, true_or, or_true, false_or, or_false, false_and, and_false, not_true_eq_false, not_false_eq_true, ne_eq, unL, trim_nil, views_pures, LV.pures, LV.pure, freeze, Nat.reduceDiv, Int.reduceEq, Int.reduceLT, Int.reduceLE, Int.natCast_zero, LV.cells, allocL, List.getElem?_cons_zero, List.getElem?_cons_succ, storeL, spliceL, List.take_zero, List.take_succ_cons, List.drop_zero, List.drop_succ_cons, List.drop_nil, List.take_nil, Nat.le_refl, Nat.reduceMul, List.set_cons_zero, List.set_cons_succ, LV.scalar, List.all_cons, List.all_nil, Nat.lt_add_one, Nat.zero_lt_one, Nat.reduceLT, Nat.lt_irrefl, fillL, List.length_append, foldIntL, kind_beq, pures_int, solids_int, plains_int, unders_int, scalars_int, show ¬ ((i : Int) < (L.length : Int)) by omega]
  | succ n ih =>
    intro i m v out hi hv ho
    have h2 : i < L.length := by omega
    have hm := hL _ (List.getElem_mem h2)
    have hg := fun nl' ex' sz' m => rguards_c nl ex nl' ex' sz sz' s K.le L[i] (asc_lt hm) (by have := asc_len hm; have := K.le; omega) m
    have hci : (RLn L[i]).cells = some [RLn L[i]] := rfl
    rw [ref12_guarding.L0_eq, List.drop_eq_getElem_cons h2, List.filter_cons]
    cases hb : grdB s L[i]
    · obtain ⟨v', m', h3, h4⟩ := ih (i + 1) m v out (by omega) hv (by omega)
      simp only [hb] at hg
      refine ⟨v', m', ?_, by simpa using h4⟩
      simp only [ref12_guarding.B0, beqT, beqF, exF_seq, exF_region, exF_block, exF_cond, exF_ret, exF_exit, exF_skip, runL, wantL, stepL, evL, LEnv.at, putL, loadFine, loadL, cellsAt, Trk.putNew, Trk.up, Trk.touch, Trk.gives, Trk.calm, Trk.hit, opdsOf, Trk.fresh, LEnv.keep, LEnv.ofFrom, List.map_cons, List.map_nil, nbeq, nble, nblt, ofAV, ofAVs, lenL, bin_add, bin_sub, bin_mul, bin_eql, bin_neq, bin_lss, bin_leq, bin_gtr, bin_geq, natL_nat, natL_zero, natL_one, natL_two, Nat.zero_mul, List.any_cons, List.any_nil, Bool.or_false, Bool.false_or, Bool.true_or, Bool.or_true, Bool.and_true, Bool.true_and, Bool.and_false, Bool.false_and, Bool.not_true, Bool.not_false, Nat.reduceBEq, Nat.reduceEqDiff, decide_true, decide_false, cond_true, cond_false, List.filter_nil, List.filter_cons, Nat.reduceAdd, Nat.reduceLeDiff, reduceCtorEq, List.length_nil, List.length_cons, Nat.mul_one, if_true, if_false, Bool.false_eq_true, eq_self, and_true, true_and, retL, resultsL, resAllL, resOfL, List.append_nil, List.nil_append, List.cons_append, true_or, or_true, false_or, or_false, false_and, and_false, not_true_eq_false, not_false_eq_true, ne_eq, unL, trim_nil, views_pures, LV.pures, LV.pure, freeze, Nat.reduceDiv, Int.reduceEq, Int.reduceLT, Int.reduceLE, Int.natCast_zero, LV.cells, allocL, List.getElem?_cons_zero, List.getElem?_cons_succ, storeL, spliceL, List.take_zero, List.take_succ_cons, List.drop_zero, List.drop_succ_cons, List.drop_nil, List.take_nil, Nat.le_refl, Nat.reduceMul, List.set_cons_zero, List.set_cons_succ, LV.scalar, List.all_cons, List.all_nil, Nat.lt_add_one, Nat.zero_lt_one, Nat.reduceLT, Nat.lt_irrefl, fillL, List.length_append, foldIntL, kind_beq, pures_int, solids_int, plains_int, unders_int, scalars_int, show ((i : Int) < (L.length : Int)) by omega, h2, rowsL_at _ _ h2, hg, wrap_succ (show i + 1 < 9223372036854775808 by omega), h3]
    · obtain ⟨v1, m1, h5, h6⟩ := one_app hv L[i] (by omega)
      obtain ⟨v', m', h3, h4⟩ := ih (i + 1) m1 v1 (out ++ [L[i]]) (by omega) h6 (by simp; omega)
      simp only [hb] at hg
      refine ⟨v', m', ?_, by simpa using h4⟩
      simp only [ref12_guarding.B0, beqT, beqF, exF_seq, exF_region, exF_block, exF_cond, exF_ret, exF_exit, exF_skip, runL, wantL, stepL, evL, LEnv.at, putL, loadFine, loadL, cellsAt, Trk.putNew, Trk.up, Trk.touch, Trk.gives, Trk.calm, Trk.hit, opdsOf, Trk.fresh, LEnv.keep, LEnv.ofFrom, List.map_cons, List.map_nil, nbeq, nble, nblt, ofAV, ofAVs, lenL, bin_add, bin_sub, bin_mul, bin_eql, bin_neq, bin_lss, bin_leq, bin_gtr, bin_geq, natL_nat, natL_zero, natL_one, natL_two, Nat.zero_mul, List.any_cons, List.any_nil, Bool.or_false, Bool.false_or, Bool.true_or, Bool.or_true, Bool.and_true, Bool.true_and, Bool.and_false, Bool.false_and, Bool.not_true, Bool.not_false, Nat.reduceBEq, Nat.reduceEqDiff, decide_true, decide_false, cond_true, cond_false, List.filter_nil, List.filter_cons, Nat.reduceAdd, Nat.reduceLeDiff, reduceCtorEq, List.length_nil, List.length_cons, Nat.mul_one, if_true, if_false, Bool.false_eq_true, eq_self, and_true, true_and, retL, resultsL, resAllL, resOfL, List.append_nil, List.nil_append, List.cons_append, true_or, or_true, false_or, or_false, false_and, and_false, not_true_eq_false, not_false_eq_true, ne_eq, unL, trim_nil, views_pures, LV.pures, LV.pure, freeze, Nat.reduceDiv, Int.reduceEq, Int.reduceLT, Int.reduceLE, Int.natCast_zero, LV.cells, allocL, List.getElem?_cons_zero, List.getElem?_cons_succ, storeL, spliceL, List.take_zero, List.take_succ_cons, List.drop_zero, List.drop_succ_cons, List.drop_nil, List.take_nil, Nat.le_refl, Nat.reduceMul, List.set_cons_zero, List.set_cons_succ, LV.scalar, List.all_cons, List.all_nil, Nat.lt_add_one, Nat.zero_lt_one, Nat.reduceLT, Nat.lt_irrefl, fillL, List.length_append, foldIntL, kind_beq, pures_int, solids_int, plains_int, unders_int, scalars_int, show ((i : Int) < (L.length : Int)) by omega, h2, rowsL_at _ _ h2, hg, hci, h5, wrap_succ (show i + 1 < 9223372036854775808 by omega), h3]
/-- All posts that guard, in ascending order. -/
def gs (s : List Int) : List (List Nat) := (asc 0 s.length).filter (grdB s)
theorem nb_adj {s : List Int} (K : OkS s) {v u : Nat} (hv : v < s.length) (hu : u < s.length) : nb s v u = true ↔ u = v ∨ adj (par s) v u = true := by
  unfold nb adj par
  rw [if_pos hv, if_pos hu]
  simp only [Bool.or_eq_true, decide_eq_true_eq, Bool.and_eq_true]
  have f1 : v ≠ 0 → 0 ≤ s.getD v 0 := fun h => (K.hi v (by omega) hv).1
  have f2 : u ≠ 0 → 0 ≤ s.getD u 0 := fun h => (K.hi u (by omega) hu).1
  have h0 := K.h0
  constructor
  · rintro (h | h | h)
    · exact .inl h
    · right; right
      have : u ≠ 0 := by intro c; subst c; omega
      exact ⟨this, by omega⟩
    · right; left
      have : v ≠ 0 := by intro c; subst c; omega
      exact ⟨this, by omega⟩
  · rintro (h | ⟨h1, h2⟩ | ⟨h1, h2⟩)
    · exact .inl h
    · have := f1 h1; right; right; omega
    · have := f2 h1; right; left; omega
theorem grd_dom {s : List Int} (K : OkS s) {S : List Nat} (hS : S ∈ asc 0 s.length) : grdB s S = dom (par s) s.length S := by
  rw [Bool.eq_iff_iff, dom, allN_iff, grdB, List.all_eq_true]
  simp only [List.mem_range, okS]
  have hlt := asc_lt hS
  constructor
  · intro h v hv
    have := h v hv
    by_cases c : v ∈ S
    · simp [c]
    · simp only [c, if_false, Bool.not_false, Bool.and_true]
      rw [List.any_eq_true] at this ⊢
      obtain ⟨u, hu, h3⟩ := this
      rcases (nb_adj K hv (hlt u hu)).1 h3 with rfl | h4
      · exact absurd hu c
      · exact ⟨u, hu, h4⟩
  · intro h v hv
    have := h v hv
    by_cases c : v ∈ S
    · rw [List.any_eq_true]
      exact ⟨v, c, by simp [nb]⟩
    · simp only [c, if_false, Bool.not_false, Bool.and_true] at this
      rw [List.any_eq_true] at this ⊢
      obtain ⟨u, hu, h3⟩ := this
      exact ⟨u, hu, (nb_adj K hv (hlt u hu)).2 (.inr h3)⟩
theorem gs_dom {s : List Int} (K : OkS s) : gs s = (asc 0 s.length).filter (dom (par s) s.length) := by
  unfold gs
  exact List.filter_congr fun S hS => grd_dom K hS
theorem range_gs {s : List Int} (K : OkS s) : List.range s.length ∈ gs s := by
  rw [gs_dom K, List.mem_filter]
  exact ⟨range_asc _, dom_range _ _⟩
theorem gs_len (s : List Int) (h : s.length ≤ 10) : (gs s).length ≤ 1024 := by
  refine Nat.le_trans (List.length_filter_le _ _) ?_
  rw [asc_length]
  exact Nat.pow_le_pow_right (n := 2) (by omega) h
theorem guarding_c (nl ex : Bool) (sz : Nat) {s : List Int} (K : OkS s) : ∃ a b, ∀ m, clF LP n_ref12_guarding [IL nl ex sz s] m = some (.P, .lst a b 1 (gs s).length (rowsL (gs s)), m) := by
  have hln : (asc 0 s.length).length ≤ 1024 := by
    rw [asc_length]; exact Nat.pow_le_pow_right (n := 2) (by omega) K.le
  obtain ⟨a, b, hl⟩ := lists_c s.length K.le s.length [] (by simp [nextOf]) (by simp [nextOf])
  have hl : ∀ m, clF LP n_ref12_lists [.int .i64 (s.length : Int), .lst true true 0 0 []] m = some (.P, .lst a b 1 (asc 0 s.length).length (rowsL (asc 0 s.length)), m) := fun m => by
    have := hl m
    change clF LP _ [_, .lst true true 0 0 []] m = _ at this
    simpa [nextOf] using this
  obtain ⟨v, m1, h1, h2⟩ := guarding_loop nl ex sz K a b (asc 0 s.length) (fun l h => h) (by omega) (asc 0 s.length).length 0 [] (.lst true true 0 0 []) [] (by omega) (Lst.nil _ _) (by simp)
  simp only [List.drop_zero, List.nil_append, Int.natCast_zero] at h1 h2
  change Lst m1 v 1 (gs s).length (rowsL (gs s)) at h2
  obtain ⟨a', b', c, ids, hc, _, _, hv⟩ := h2.view (rowsL_pures _) (by omega)
  have hne : (gs s).length ≠ 0 := by
    intro c
    have := List.length_eq_zero_iff.1 c
    have h := range_gs K
    rw [this] at h; cases h
  obtain rfl : c = 1 := by
    rcases hc with c | c
    · exact absurd c hne
    · exact c
  refine ⟨a', b', fun m => call_Pv lp_ref12_guarding rfl (by simp [LV.pures, LV.pure]) ?_ (hv 37) m⟩
  simp only [ref12_guarding, ref12_guarding.B, beqT, beqF, exF_seq, exF_region, exF_block, exF_cond, exF_ret, exF_exit, exF_skip, runL, wantL, stepL, evL, LEnv.at, putL, loadFine, loadL, cellsAt, Trk.putNew, Trk.up, Trk.touch, Trk.gives, Trk.calm, Trk.hit, opdsOf, Trk.fresh, LEnv.keep, LEnv.ofFrom, List.map_cons, List.map_nil, nbeq, nble, nblt, ofAV, ofAVs, lenL, bin_add, bin_sub, bin_mul, bin_eql, bin_neq, bin_lss, bin_leq, bin_gtr, bin_geq, natL_nat, natL_zero, natL_one, natL_two, Nat.zero_mul, List.any_cons, List.any_nil, Bool.or_false, Bool.false_or, Bool.true_or, Bool.or_true, Bool.and_true, Bool.true_and, Bool.and_false, Bool.false_and, Bool.not_true, Bool.not_false, Nat.reduceBEq, Nat.reduceEqDiff, decide_true, decide_false, cond_true, cond_false, List.filter_nil, List.filter_cons, Nat.reduceAdd, Nat.reduceLeDiff, reduceCtorEq, List.length_nil, List.length_cons, Nat.mul_one, if_true, if_false, Bool.false_eq_true, eq_self, and_true, true_and, retL, resultsL, resAllL, resOfL, List.append_nil, List.nil_append, List.cons_append, true_or, or_true, false_or, or_false, false_and, and_false, not_true_eq_false, not_false_eq_true, ne_eq, unL, trim_nil, views_pures, LV.pures, LV.pure, freeze, Nat.reduceDiv, Int.reduceEq, Int.reduceLT, Int.reduceLE, Int.natCast_zero, LV.cells, allocL, List.getElem?_cons_zero, List.getElem?_cons_succ, storeL, spliceL, List.take_zero, List.take_succ_cons, List.drop_zero, List.drop_succ_cons, List.drop_nil, List.take_nil, Nat.le_refl, Nat.reduceMul, List.set_cons_zero, List.set_cons_succ, LV.scalar, List.all_cons, List.all_nil, Nat.lt_add_one, Nat.zero_lt_one, Nat.reduceLT, Nat.lt_irrefl, fillL, List.length_append, foldIntL, kind_beq, pures_int, solids_int, plains_int, unders_int, scalars_int, hl, h1]

/-! ### The smallest -/
def smStep (out : List (List Nat)) (l : List Nat) : List (List Nat) := match out with
  | [] => [l]
  | o :: os => if l.length < o.length then [l] else if l.length = o.length then (o :: os) ++ [l] else o :: os
def smF : List (List Nat) → List (List Nat) → List (List Nat)
  | out, [] => out
  | out, l :: r => smF (smStep out l) r
theorem smStep_len (out : List (List Nat)) (l : List Nat) : (smStep out l).length ≤ out.length + 1 := by
  unfold smStep
  split
  · simp
  · split
    · simp
    · split <;> simp
theorem small_loop (a b : Bool) (L : List (List Nat)) (hlen : L.length ≤ 2000) (n : Nat) : ∀ (i : Nat) (m : LMem) (v : LV) (out : List (List Nat)), i + n = L.length → Lst m v 1 out.length (rowsL out) → out.length ≤ i →
    ∃ v' m', exF LP ref12_smallest.L0 [(0, .lst a b 1 L.length (rowsL L)), (3, v), (4, .int .i64 (i : Int))] m = some (.exit 0, [(3, v')], m') ∧ Lst m' v' 1 (smF out (L.drop i)).length (rowsL (smF out (L.drop i))) := by
  induction n with
  | zero =>
    intro i m v out hi hv ho
    refine ⟨v, m, ?_, by rw [List.drop_eq_nil_of_le (by omega)]; exact hv⟩
    rw [ref12_smallest.L0_eq]
    simp only [ref12_smallest.B0, beqT, beqF, exF_seq, exF_region, exF_block, exF_cond, exF_ret, exF_exit, exF_skip, runL, wantL, stepL, evL, LEnv.at, putL, loadFine, loadL, cellsAt, Trk.putNew, Trk.up, Trk.touch, Trk.gives, Trk.calm, Trk.hit, opdsOf, Trk.fresh, LEnv.keep, LEnv.ofFrom, List.map_cons, List.map_nil, nbeq, nble, nblt, ofAV, ofAVs, lenL, bin_add, bin_sub, bin_mul, bin_eql, bin_neq, bin_lss, bin_leq, bin_gtr, bin_geq, natL_nat, natL_zero, natL_one, natL_two, Nat.zero_mul, List.any_cons, List.any_nil, Bool.or_false, Bool.false_or, Bool.true_or, Bool.or_true, Bool.and_true, Bool.true_and, Bool.and_false, Bool.false_and, Bool.not_true, Bool.not_false, Nat.reduceBEq, Nat.reduceEqDiff, decide_true, decide_false, cond_true, cond_false, List.filter_nil, List.filter_cons, Nat.reduceAdd, Nat.reduceLeDiff, reduceCtorEq, List.length_nil, List.length_cons, Nat.mul_one, if_true, if_false, Bool.false_eq_true, eq_self, and_true, true_and, retL, resultsL, resAllL, resOfL, List.append_nil, List.nil_append, List.cons_append, true_or, or_true, false_or, or_false, false_and, and_false, not_true_eq_false, not_false_eq_true, ne_eq, unL, trim_nil, views_pures, LV.pures, LV.pure, freeze, Nat.reduceDiv, Int.reduceEq, Int.reduceLT, Int.reduceLE, Int.natCast_zero, LV.cells, allocL, List.getElem?_cons_zero, List.getElem?_cons_succ, storeL, spliceL, List.take_zero, List.take_succ_cons, List.drop_zero, List.drop_succ_cons, List.drop_nil, List.take_nil, Nat.le_refl, Nat.reduceMul, List.set_cons_zero, List.set_cons_succ, LV.scalar, List.all_cons, List.all_nil, Nat.lt_add_one, Nat.zero_lt_one, Nat.reduceLT, Nat.lt_irrefl, fillL, List.length_append, foldIntL, kind_beq, pures_int, solids_int, plains_int, unders_int, scalars_int, show ¬ ((i : Int) < (L.length : Int)) by omega]
  | succ n ih =>
    intro i m v out hi hv ho
    have h2 : i < L.length := by omega
    have hci : (RLn L[i]).cells = some [RLn L[i]] := rfl
    have hcl : (ci L[i]).length = L[i].length := by simp
    have hsl := smStep_len out L[i]
    rw [ref12_smallest.L0_eq, List.drop_eq_getElem_cons h2, smF]
    cases out with
    | nil =>
      obtain ⟨nl', ex', z, rfl⟩ : ∃ nl' ex' z, v = .lst nl' ex' z 0 [] := by
        rcases hv with ⟨nl', ex', z, rfl, _⟩ | ⟨_, _, _, _, h⟩
        · exact ⟨nl', ex', z, rfl⟩
        · simp at h
      obtain ⟨v1, m1, h5, h6⟩ := one_app hv L[i] (by omega)
      obtain ⟨v', m', h3, h4⟩ := ih (i + 1) m1 v1 [L[i]] (by omega) h6 (by simp)
      refine ⟨v', m', ?_, h4⟩
      simp only [ref12_smallest.B0, beqT, beqF, exF_seq, exF_region, exF_block, exF_cond, exF_ret, exF_exit, exF_skip, runL, wantL, stepL, evL, LEnv.at, putL, loadFine, loadL, cellsAt, Trk.putNew, Trk.up, Trk.touch, Trk.gives, Trk.calm, Trk.hit, opdsOf, Trk.fresh, LEnv.keep, LEnv.ofFrom, List.map_cons, List.map_nil, nbeq, nble, nblt, ofAV, ofAVs, lenL, bin_add, bin_sub, bin_mul, bin_eql, bin_neq, bin_lss, bin_leq, bin_gtr, bin_geq, natL_nat, natL_zero, natL_one, natL_two, Nat.zero_mul, List.any_cons, List.any_nil, Bool.or_false, Bool.false_or, Bool.true_or, Bool.or_true, Bool.and_true, Bool.true_and, Bool.and_false, Bool.false_and, Bool.not_true, Bool.not_false, Nat.reduceBEq, Nat.reduceEqDiff, decide_true, decide_false, cond_true, cond_false, List.filter_nil, List.filter_cons, Nat.reduceAdd, Nat.reduceLeDiff, reduceCtorEq, List.length_nil, List.length_cons, Nat.mul_one, if_true, if_false, Bool.false_eq_true, eq_self, and_true, true_and, retL, resultsL, resAllL, resOfL, List.append_nil, List.nil_append, List.cons_append, true_or, or_true, false_or, or_false, false_and, and_false, not_true_eq_false, not_false_eq_true, ne_eq, unL, trim_nil, views_pures, LV.pures, LV.pure, freeze, Nat.reduceDiv, Int.reduceEq, Int.reduceLT, Int.reduceLE, Int.natCast_zero, LV.cells, allocL, List.getElem?_cons_zero, List.getElem?_cons_succ, storeL, spliceL, List.take_zero, List.take_succ_cons, List.drop_zero, List.drop_succ_cons, List.drop_nil, List.take_nil, Nat.le_refl, Nat.reduceMul, List.set_cons_zero, List.set_cons_succ, LV.scalar, List.all_cons, List.all_nil, Nat.lt_add_one, Nat.zero_lt_one, Nat.reduceLT, Nat.lt_irrefl, fillL, List.length_append, foldIntL, kind_beq, pures_int, solids_int, plains_int, unders_int, scalars_int, show ((i : Int) < (L.length : Int)) by omega, h2, rowsL_at _ _ h2, hci, h5, wrap_succ (show i + 1 < 9223372036854775808 by omega), h3]
    | cons o os =>
      have hll := hv.lenL
      have hp1 : (0 : Int) < ((o :: os).length : Int) := by rw [List.length_cons]; omega
      have hp2 : ¬ ((o :: os).length : Int) = 0 := by rw [List.length_cons]; omega
      have hoc : (ci o).length = o.length := by simp
      -- the first of those that are there
      have hcase : (∃ nl' ex', v = .lst nl' ex' 1 (o :: os).length (rowsL (o :: os))) ∨ ∃ bk, v = .sl bk 0 (o :: os).length (o :: os).length 1 1 (o :: os).length ∧ m[bk]? = some ⟨rowsL (o :: os), true⟩ := by
        rcases hv with ⟨nl', ex', z, rfl, _, hz, _⟩ | ⟨bk, rfl, h7, _⟩
        · left
          rcases hz with hz | hz
          · simp at hz
          · subst hz; exact ⟨nl', ex', rfl⟩
        · right; exact ⟨bk, by simp, h7⟩
      have hro : (rowsL (o :: os))[0]? = some (RLn o) := rfl
      have hrl : (rowsL (o :: os)).length = (o :: os).length := by simp
      have h0 : 0 < (o :: os).length := by simp
      unfold smStep
      by_cases c1 : L[i].length < o.length
      · have c1' : (L[i].length : Int) < (o.length : Int) := by omega
        obtain ⟨v1, m1, h5, h6⟩ := one_app (out := []) (Lst.nil m 1) L[i] (by simp)
        obtain ⟨v', m', h3, h4⟩ := ih (i + 1) m1 v1 [L[i]] (by omega) h6 (by simp)
        refine ⟨v', m', ?_, by simp only [if_pos c1]; exact h4⟩
        rcases hcase with ⟨nl', ex', rfl⟩ | ⟨bk, rfl, h7⟩
        · generalize (o :: os) = out at *
          simp only [ref12_smallest.B0, beqT, beqF, exF_seq, exF_region, exF_block, exF_cond, exF_ret, exF_exit, exF_skip, runL, wantL, stepL, evL, LEnv.at, putL, loadFine, loadL, cellsAt, Trk.putNew, Trk.up, Trk.touch, Trk.gives, Trk.calm, Trk.hit, opdsOf, Trk.fresh, LEnv.keep, LEnv.ofFrom, List.map_cons, List.map_nil, nbeq, nble, nblt, ofAV, ofAVs, lenL, bin_add, bin_sub, bin_mul, bin_eql, bin_neq, bin_lss, bin_leq, bin_gtr, bin_geq, natL_nat, natL_zero, natL_one, natL_two, Nat.zero_mul, List.any_cons, List.any_nil, Bool.or_false, Bool.false_or, Bool.true_or, Bool.or_true, Bool.and_true, Bool.true_and, Bool.and_false, Bool.false_and, Bool.not_true, Bool.not_false, Nat.reduceBEq, Nat.reduceEqDiff, decide_true, decide_false, cond_true, cond_false, List.filter_nil, List.filter_cons, Nat.reduceAdd, Nat.reduceLeDiff, reduceCtorEq, List.length_nil, List.length_cons, Nat.mul_one, if_true, if_false, Bool.false_eq_true, eq_self, and_true, true_and, retL, resultsL, resAllL, resOfL, List.append_nil, List.nil_append, List.cons_append, true_or, or_true, false_or, or_false, false_and, and_false, not_true_eq_false, not_false_eq_true, ne_eq, unL, trim_nil, views_pures, LV.pures, LV.pure, freeze, Nat.reduceDiv, Int.reduceEq, Int.reduceLT, Int.reduceLE, Int.natCast_zero, LV.cells, allocL, List.getElem?_cons_zero, List.getElem?_cons_succ, storeL, spliceL, List.take_zero, List.take_succ_cons, List.drop_zero, List.drop_succ_cons, List.drop_nil, List.take_nil, Nat.le_refl, Nat.reduceMul, List.set_cons_zero, List.set_cons_succ, LV.scalar, List.all_cons, List.all_nil, Nat.lt_add_one, Nat.zero_lt_one, Nat.reduceLT, Nat.lt_irrefl, fillL, List.length_append, foldIntL, kind_beq, pures_int, solids_int, plains_int, unders_int, scalars_int, show ((i : Int) < (L.length : Int)) by omega, hp1, h2, rowsL_at _ _ h2, h0, hro, hcl, hoc, c1', hci, h5, wrap_succ (show i + 1 < 9223372036854775808 by omega), h3]
        · have hbk : ¬ m.length ≤ bk := by rw [List.getElem?_eq_some_iff] at h7; have := h7.1; omega
          generalize (o :: os) = out at *
          simp only [ref12_smallest.B0, beqT, beqF, exF_seq, exF_region, exF_block, exF_cond, exF_ret, exF_exit, exF_skip, runL, wantL, stepL, evL, LEnv.at, putL, loadFine, loadL, cellsAt, Trk.putNew, Trk.up, Trk.touch, Trk.gives, Trk.calm, Trk.hit, opdsOf, Trk.fresh, LEnv.keep, LEnv.ofFrom, List.map_cons, List.map_nil, nbeq, nble, nblt, ofAV, ofAVs, lenL, bin_add, bin_sub, bin_mul, bin_eql, bin_neq, bin_lss, bin_leq, bin_gtr, bin_geq, natL_nat, natL_zero, natL_one, natL_two, Nat.zero_mul, List.any_cons, List.any_nil, Bool.or_false, Bool.false_or, Bool.true_or, Bool.or_true, Bool.and_true, Bool.true_and, Bool.and_false, Bool.false_and, Bool.not_true, Bool.not_false, Nat.reduceBEq, Nat.reduceEqDiff, decide_true, decide_false, cond_true, cond_false, List.filter_nil, List.filter_cons, Nat.reduceAdd, Nat.reduceLeDiff, reduceCtorEq, List.length_nil, List.length_cons, Nat.mul_one, if_true, if_false, Bool.false_eq_true, eq_self, and_true, true_and, retL, resultsL, resAllL, resOfL, List.append_nil, List.nil_append, List.cons_append, true_or, or_true, false_or, or_false, false_and, and_false, not_true_eq_false, not_false_eq_true, ne_eq, unL, trim_nil, views_pures, LV.pures, LV.pure, freeze, Nat.reduceDiv, Int.reduceEq, Int.reduceLT, Int.reduceLE, Int.natCast_zero, LV.cells, allocL, List.getElem?_cons_zero, List.getElem?_cons_succ, storeL, spliceL, List.take_zero, List.take_succ_cons, List.drop_zero, List.drop_succ_cons, List.drop_nil, List.take_nil, Nat.le_refl, Nat.reduceMul, List.set_cons_zero, List.set_cons_succ, LV.scalar, List.all_cons, List.all_nil, Nat.lt_add_one, Nat.zero_lt_one, Nat.reduceLT, Nat.lt_irrefl, fillL, List.length_append, foldIntL, kind_beq, pures_int, solids_int, plains_int, unders_int, scalars_int, show ((i : Int) < (L.length : Int)) by omega, hp1, h2, rowsL_at _ _ h2, h0, hro, hrl, h7, hbk, hcl, hoc, c1', hci, h5, wrap_succ (show i + 1 < 9223372036854775808 by omega), h3]
      · have c1' : ¬ (L[i].length : Int) < (o.length : Int) := by omega
        simp only [if_neg c1]
        by_cases c2 : L[i].length = o.length
        · have c2' : (L[i].length : Int) = (o.length : Int) := by omega
          obtain ⟨v1, m1, h5, h6⟩ := one_app hv L[i] (by omega)
          obtain ⟨v', m', h3, h4⟩ := ih (i + 1) m1 v1 (o :: os ++ [L[i]]) (by omega) h6 (by simp at ho ⊢; omega)
          refine ⟨v', m', ?_, by simp only [if_pos c2]; exact h4⟩
          rcases hcase with ⟨nl', ex', rfl⟩ | ⟨bk, rfl, h7⟩
          · generalize (o :: os) = out at *
            simp only [ref12_smallest.B0, beqT, beqF, exF_seq, exF_region, exF_block, exF_cond, exF_ret, exF_exit, exF_skip, runL, wantL, stepL, evL, LEnv.at, putL, loadFine, loadL, cellsAt, Trk.putNew, Trk.up, Trk.touch, Trk.gives, Trk.calm, Trk.hit, opdsOf, Trk.fresh, LEnv.keep, LEnv.ofFrom, List.map_cons, List.map_nil, nbeq, nble, nblt, ofAV, ofAVs, lenL, bin_add, bin_sub, bin_mul, bin_eql, bin_neq, bin_lss, bin_leq, bin_gtr, bin_geq, natL_nat, natL_zero, natL_one, natL_two, Nat.zero_mul, List.any_cons, List.any_nil, Bool.or_false, Bool.false_or, Bool.true_or, Bool.or_true, Bool.and_true, Bool.true_and, Bool.and_false, Bool.false_and, Bool.not_true, Bool.not_false, Nat.reduceBEq, Nat.reduceEqDiff, decide_true, decide_false, cond_true, cond_false, List.filter_nil, List.filter_cons, Nat.reduceAdd, Nat.reduceLeDiff, reduceCtorEq, List.length_nil, List.length_cons, Nat.mul_one, if_true, if_false, Bool.false_eq_true, eq_self, and_true, true_and, retL, resultsL, resAllL, resOfL, List.append_nil, List.nil_append, List.cons_append, true_or, or_true, false_or, or_false, false_and, and_false, not_true_eq_false, not_false_eq_true, ne_eq, unL, trim_nil, views_pures, LV.pures, LV.pure, freeze, Nat.reduceDiv, Int.reduceEq, Int.reduceLT, Int.reduceLE, Int.natCast_zero, LV.cells, allocL, List.getElem?_cons_zero, List.getElem?_cons_succ, storeL, spliceL, List.take_zero, List.take_succ_cons, List.drop_zero, List.drop_succ_cons, List.drop_nil, List.take_nil, Nat.le_refl, Nat.reduceMul, List.set_cons_zero, List.set_cons_succ, LV.scalar, List.all_cons, List.all_nil, Nat.lt_add_one, Nat.zero_lt_one, Nat.reduceLT, Nat.lt_irrefl, fillL, List.length_append, foldIntL, kind_beq, pures_int, solids_int, plains_int, unders_int, scalars_int, show ((i : Int) < (L.length : Int)) by omega, hp1, hp2, h2, rowsL_at _ _ h2, h0, hro, hcl, hoc, c1', c2', hci, h5, wrap_succ (show i + 1 < 9223372036854775808 by omega), h3, Int.lt_irrefl]
          · have hbk : ¬ m.length ≤ bk := by rw [List.getElem?_eq_some_iff] at h7; have := h7.1; omega
            generalize (o :: os) = out at *
            simp only [ref12_smallest.B0, beqT, beqF, exF_seq, exF_region, exF_block, exF_cond, exF_ret, exF_exit, exF_skip, runL, wantL, stepL, evL, LEnv.at, putL, loadFine, loadL, cellsAt, Trk.putNew, Trk.up, Trk.touch, Trk.gives, Trk.calm, Trk.hit, opdsOf, Trk.fresh, LEnv.keep, LEnv.ofFrom, List.map_cons, List.map_nil, nbeq, nble, nblt, ofAV, ofAVs, lenL, bin_add, bin_sub, bin_mul, bin_eql, bin_neq, bin_lss, bin_leq, bin_gtr, bin_geq, natL_nat, natL_zero, natL_one, natL_two, Nat.zero_mul, List.any_cons, List.any_nil, Bool.or_false, Bool.false_or, Bool.true_or, Bool.or_true, Bool.and_true, Bool.true_and, Bool.and_false, Bool.false_and, Bool.not_true, Bool.not_false, Nat.reduceBEq, Nat.reduceEqDiff, decide_true, decide_false, cond_true, cond_false, List.filter_nil, List.filter_cons, Nat.reduceAdd, Nat.reduceLeDiff, reduceCtorEq, List.length_nil, List.length_cons, Nat.mul_one, if_true, if_false, Bool.false_eq_true, eq_self, and_true, true_and, retL, resultsL, resAllL, resOfL, List.append_nil, List.nil_append, List.cons_append, true_or, or_true, false_or, or_false, false_and, and_false, not_true_eq_false, not_false_eq_true, ne_eq, unL, trim_nil, views_pures, LV.pures, LV.pure, freeze, Nat.reduceDiv, Int.reduceEq, Int.reduceLT, Int.reduceLE, Int.natCast_zero, LV.cells, allocL, List.getElem?_cons_zero, List.getElem?_cons_succ, storeL, spliceL, List.take_zero, List.take_succ_cons, List.drop_zero, List.drop_succ_cons, List.drop_nil, List.take_nil, Nat.le_refl, Nat.reduceMul, List.set_cons_zero, List.set_cons_succ, LV.scalar, List.all_cons, List.all_nil, Nat.lt_add_one, Nat.zero_lt_one, Nat.reduceLT, Nat.lt_irrefl, fillL, List.length_append, foldIntL, kind_beq, pures_int, solids_int, plains_int, unders_int, scalars_int, show ((i : Int) < (L.length : Int)) by omega, hp1, hp2, h2, rowsL_at _ _ h2, h0, hro, hrl, h7, hbk, hcl, hoc, c1', c2', hci, h5, wrap_succ (show i + 1 < 9223372036854775808 by omega), h3, Int.lt_irrefl]
        · have c2' : ¬ (L[i].length : Int) = (o.length : Int) := by omega
          obtain ⟨v', m', h3, h4⟩ := ih (i + 1) m v (o :: os) (by omega) hv (by omega)
          refine ⟨v', m', ?_, by simp only [if_neg c2]; exact h4⟩
          rcases hcase with ⟨nl', ex', rfl⟩ | ⟨bk, rfl, h7⟩
          · generalize (o :: os) = out at *
            simp only [ref12_smallest.B0, beqT, beqF, exF_seq, exF_region, exF_block, exF_cond, exF_ret, exF_exit, exF_skip, runL, wantL, stepL, evL, LEnv.at, putL, loadFine, loadL, cellsAt, Trk.putNew, Trk.up, Trk.touch, Trk.gives, Trk.calm, Trk.hit, opdsOf, Trk.fresh, LEnv.keep, LEnv.ofFrom, List.map_cons, List.map_nil, nbeq, nble, nblt, ofAV, ofAVs, lenL, bin_add, bin_sub, bin_mul, bin_eql, bin_neq, bin_lss, bin_leq, bin_gtr, bin_geq, natL_nat, natL_zero, natL_one, natL_two, Nat.zero_mul, List.any_cons, List.any_nil, Bool.or_false, Bool.false_or, Bool.true_or, Bool.or_true, Bool.and_true, Bool.true_and, Bool.and_false, Bool.false_and, Bool.not_true, Bool.not_false, Nat.reduceBEq, Nat.reduceEqDiff, decide_true, decide_false, cond_true, cond_false, List.filter_nil, List.filter_cons, Nat.reduceAdd, Nat.reduceLeDiff, reduceCtorEq, List.length_nil, List.length_cons, Nat.mul_one, if_true, if_false, Bool.false_eq_true, eq_self, and_true, true_and, retL, resultsL, resAllL, resOfL, List.append_nil, List.nil_append, List.cons_append, true_or, or_true, false_or, or_false, false_and, and_false, not_true_eq_false, not_false_eq_true, ne_eq, unL, trim_nil, views_pures, LV.pures, LV.pure, freeze, Nat.reduceDiv, Int.reduceEq, Int.reduceLT, Int.reduceLE, Int.natCast_zero, LV.cells, allocL, List.getElem?_cons_zero, List.getElem?_cons_succ, storeL, spliceL, List.take_zero, List.take_succ_cons, List.drop_zero, List.drop_succ_cons, List.drop_nil, List.take_nil, Nat.le_refl, Nat.reduceMul, List.set_cons_zero, List.set_cons_succ, LV.scalar, List.all_cons, List.all_nil, Nat.lt_add_one, Nat.zero_lt_one, Nat.reduceLT, Nat.lt_irrefl, fillL, List.length_append, foldIntL, kind_beq, pures_int, solids_int, plains_int, unders_int, scalars_int, show ((i : Int) < (L.length : Int)) by omega, hp1, hp2, h2, rowsL_at _ _ h2, h0, hro, hcl, hoc, c1', c2', hci, wrap_succ (show i + 1 < 9223372036854775808 by omega), h3]
          · have hbk : ¬ m.length ≤ bk := by rw [List.getElem?_eq_some_iff] at h7; have := h7.1; omega
            generalize (o :: os) = out at *
            simp only [ref12_smallest.B0, beqT, beqF, exF_seq, exF_region, exF_block, exF_cond, exF_ret, exF_exit, exF_skip, runL, wantL, stepL, evL, LEnv.at, putL, loadFine, loadL, cellsAt, Trk.putNew, Trk.up, Trk.touch, Trk.gives, Trk.calm, Trk.hit, opdsOf, Trk.fresh, LEnv.keep, LEnv.ofFrom, List.map_cons, List.map_nil, nbeq, nble, nblt, ofAV, ofAVs, lenL, bin_add, bin_sub, bin_mul, bin_eql, bin_neq, bin_lss, bin_leq, bin_gtr, bin_geq, natL_nat, natL_zero, natL_one, natL_two, Nat.zero_mul, List.any_cons, List.any_nil, Bool.or_false, Bool.false_or, Bool.true_or, Bool.or_true, Bool.and_true, Bool.true_and, Bool.and_false, Bool.false_and, Bool.not_true, Bool.not_false, Nat.reduceBEq, Nat.reduceEqDiff, decide_true, decide_false, cond_true, cond_false, List.filter_nil, List.filter_cons, Nat.reduceAdd, Nat.reduceLeDiff, reduceCtorEq, List.length_nil, List.length_cons, Nat.mul_one, if_true, if_false, Bool.false_eq_true, eq_self, and_true, true_and, retL, resultsL, resAllL, resOfL, List.append_nil, List.nil_append, List.cons_append, true_or, or_true, false_or, or_false, false_and, and_false, not_true_eq_false, not_false_eq_true, ne_eq, unL, trim_nil, views_pures, LV.pures, LV.pure, freeze, Nat.reduceDiv, Int.reduceEq, Int.reduceLT, Int.reduceLE, Int.natCast_zero, LV.cells, allocL, List.getElem?_cons_zero, List.getElem?_cons_succ, storeL, spliceL, List.take_zero, List.take_succ_cons, List.drop_zero, List.drop_succ_cons, List.drop_nil, List.take_nil, Nat.le_refl, Nat.reduceMul, List.set_cons_zero, List.set_cons_succ, LV.scalar, List.all_cons, List.all_nil, Nat.lt_add_one, Nat.zero_lt_one, Nat.reduceLT, Nat.lt_irrefl, fillL, List.length_append, foldIntL, kind_beq, pures_int, solids_int, plains_int, unders_int, scalars_int, show ((i : Int) < (L.length : Int)) by omega, hp1, hp2, h2, rowsL_at _ _ h2, h0, hro, hrl, h7, hbk, hcl, hoc, c1', c2', hci, wrap_succ (show i + 1 < 9223372036854775808 by omega), h3]
theorem smF_ok (b : Nat) : ∀ (L out : List (List Nat)) (k : Nat), out ≠ [] → (∀ x ∈ out, x.length = k) → b ≤ k → (∀ l ∈ L, b ≤ l.length) → (b = k ∨ ∃ l ∈ L, l.length = b) → smF out L = (if k = b then out else []) ++ L.filter fun l => decide (l.length = b)
  | [], out, k, h0, h1, h2, h3, h4 => by
    rcases h4 with rfl | ⟨l, hl, _⟩
    · simp [smF]
    · cases hl
  | l :: r, [], k, h0, _, _, _, _ => absurd rfl h0
  | l :: r, o :: os, k, h0, h1, h2, h3, h4 => by
    have ho := h1 o (by simp)
    have hl := h3 l (by simp)
    have hr : ∀ x ∈ r, b ≤ x.length := fun x hx => h3 x (by simp [hx])
    rw [smF, smStep]
    by_cases c1 : l.length < o.length
    · rw [if_pos c1, smF_ok b r [l] l.length (by simp) (by simp) hl hr (by
        rcases h4 with c | ⟨x, hx, e⟩
        · omega
        · rcases List.mem_cons.1 hx with rfl | hx
          · exact .inl e.symm
          · exact .inr ⟨x, hx, e⟩)]
      rw [if_neg (show ¬ k = b by omega), List.filter_cons]
      by_cases c : l.length = b <;> simp [c]
    · rw [if_neg c1]
      by_cases c2 : l.length = o.length
      · rw [if_pos c2, smF_ok b r (o :: os ++ [l]) k (by simp) (by
          intro x hx
          rcases List.mem_append.1 hx with hx | hx
          · exact h1 x hx
          · simp at hx; subst hx; omega) h2 hr (by
          rcases h4 with c | ⟨x, hx, e⟩
          · exact .inl c
          · rcases List.mem_cons.1 hx with rfl | hx
            · left; omega
            · exact .inr ⟨x, hx, e⟩), List.filter_cons]
        by_cases c : k = b
        · simp [c, show l.length = b by omega]
        · simp [c, show ¬ l.length = b by omega]
      · rw [if_neg c2, smF_ok b r (o :: os) k (by simp) h1 h2 hr (by
          rcases h4 with c | ⟨x, hx, e⟩
          · exact .inl c
          · rcases List.mem_cons.1 hx with rfl | hx
            · omega
            · exact .inr ⟨x, hx, e⟩), List.filter_cons]
        simp [show ¬ l.length = b by omega]
/-- All of the least length. -/
theorem smF_min (b : Nat) (L : List (List Nat)) (h1 : ∀ l ∈ L, b ≤ l.length) (h2 : ∃ l ∈ L, l.length = b) : smF [] L = L.filter fun l => decide (l.length = b) := by
  cases L with
  | nil => obtain ⟨l, hl, _⟩ := h2; cases hl
  | cons l r =>
    rw [smF, smStep, smF_ok b r [l] l.length (by simp) (by simp) (h1 l (by simp)) (fun x hx => h1 x (by simp [hx])) (by
      obtain ⟨x, hx, e⟩ := h2
      rcases List.mem_cons.1 hx with rfl | hx
      · exact .inl e.symm
      · exact .inr ⟨x, hx, e⟩), List.filter_cons]
    by_cases c : l.length = b <;> simp [c]
theorem smallest_c (a b : Bool) (L : List (List Nat)) (hlen : L.length ≤ 2000) (hne : smF [] L ≠ []) : ∃ a' b', ∀ m, clF LP n_ref12_smallest [.lst a b 1 L.length (rowsL L)] m = some (.P, .lst a' b' 1 (smF [] L).length (rowsL (smF [] L)), m) := by
  obtain ⟨v, m1, h1, h2⟩ := small_loop a b L hlen L.length 0 [] (.lst true true 0 0 []) [] (by omega) (Lst.nil _ _) (by simp)
  simp only [List.drop_zero, Int.natCast_zero] at h1 h2
  obtain ⟨a', b', c, ids, hc, _, _, hv⟩ := h2.view (rowsL_pures _) (by omega)
  obtain rfl : c = 1 := by
    rcases hc with c | c
    · exact absurd (List.length_eq_zero_iff.1 c) hne
    · exact c
  refine ⟨a', b', fun m => call_Pv lp_ref12_smallest rfl (by simp [LV.pures, LV.pure]) ?_ (hv 37) m⟩
  simp only [ref12_smallest, ref12_smallest.B, beqT, beqF, exF_seq, exF_region, exF_block, exF_cond, exF_ret, exF_exit, exF_skip, runL, wantL, stepL, evL, LEnv.at, putL, loadFine, loadL, cellsAt, Trk.putNew, Trk.up, Trk.touch, Trk.gives, Trk.calm, Trk.hit, opdsOf, Trk.fresh, LEnv.keep, LEnv.ofFrom, List.map_cons, List.map_nil, nbeq, nble, nblt, ofAV, ofAVs, lenL, bin_add, bin_sub, bin_mul, bin_eql, bin_neq, bin_lss, bin_leq, bin_gtr, bin_geq, natL_nat, natL_zero, natL_one, natL_two, Nat.zero_mul, List.any_cons, List.any_nil, Bool.or_false, Bool.false_or, Bool.true_or, Bool.or_true, Bool.and_true, Bool.true_and, Bool.and_false, Bool.false_and, Bool.not_true, Bool.not_false, Nat.reduceBEq, Nat.reduceEqDiff, decide_true, decide_false, cond_true, cond_false, List.filter_nil, List.filter_cons, Nat.reduceAdd, Nat.reduceLeDiff, reduceCtorEq, List.length_nil, List.length_cons, Nat.mul_one, if_true, if_false, Bool.false_eq_true, eq_self, and_true, true_and, retL, resultsL, resAllL, resOfL, List.append_nil, List.nil_append, List.cons_append, true_or, or_true, false_or, or_false, false_and, and_false, not_true_eq_false, not_false_eq_true, ne_eq, unL, trim_nil, views_pures, LV.pures, LV.pure, freeze, Nat.reduceDiv, Int.reduceEq, Int.reduceLT, Int.reduceLE, Int.natCast_zero, LV.cells, allocL, List.getElem?_cons_zero, List.getElem?_cons_succ, storeL, spliceL, List.take_zero, List.take_succ_cons, List.drop_zero, List.drop_succ_cons, List.drop_nil, List.take_nil, Nat.le_refl, Nat.reduceMul, List.set_cons_zero, List.set_cons_succ, LV.scalar, List.all_cons, List.all_nil, Nat.lt_add_one, Nat.zero_lt_one, Nat.reduceLT, Nat.lt_irrefl, fillL, List.length_append, foldIntL, kind_beq, pures_int, solids_int, plains_int, unders_int, scalars_int, h1]
end Go.Am.Post

