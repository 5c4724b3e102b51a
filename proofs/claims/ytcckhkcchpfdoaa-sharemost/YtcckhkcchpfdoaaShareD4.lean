import Derived.Test.YtcckhkcchpfdoaaShareD1
/-
  What functions of chapter 07 compute, outright 4: values by numbers as an argument; calls that are shown a list; the law 'ShareJudged'.
-/
set_option linter.unusedVariables false
set_option linter.unusedSimpArgs false
set_option maxRecDepth 10000
set_option maxHeartbeats 400000
namespace Go.Am.Share
open Go.Am.G

/-! ### Values by numbers -/
def rowR (l : List Int) : Row := ⟨decide (l = []), decide (l = []), bif decide (l = []) then 0 else 1, l⟩
def rsM (w : List Nat) (M n r : Nat) : List Row := (rowsM w M n r).map rowR
theorem rsM_len (w : List Nat) (M n r : Nat) : (rsM w M n r).length = r := by simp [rsM, rowsM_len]
theorem rsM_vals (w : List Nat) (M n r : Nat) : vals (rsM w M n r) = rowsM w M n r := by simp [vals, rsM, rowR, Function.comp_def]
theorem rsM_lv (w : List Nat) (M n r : Nat) : (rsM w M n r).map Row.lv = (rowsM w M n r).map RL := by simp [rsM, rowR]
theorem rsM_at (w : List Nat) (M n r i : Nat) (h : i < (rsM w M n r).length) : (rsM w M n r)[i] = rowR (rowL (cut6 w i) M n) := by simp [rsM, rowsM]
theorem rowL_20 (q : List Nat) (M n : Nat) (hM : M ≤ 20) : Ok20 (rowL q M n) := fun x hx => by
  obtain ⟨j, _, rfl⟩ := List.mem_map.1 hx
  have := Nat.mod_lt (q.getD j 0) (show 0 < M + 1 by omega)
  omega
theorem made_c (w : List Nat) (hw : w.length = 26) (hb : ∀ x ∈ w, x < 256) (F T M : Nat) (hF : 1 ≤ F ∧ F ≤ 4) (hT : T ≤ 6) (hM : M ≤ 20) :
    ∃ (b c : Bool) (z : Nat), ∀ m, clF LP n_law07_Heap_made [.agg (bys w), .int .i64 (F : Int), .int .i64 (T : Int), .int .i64 (M : Int)] m = some (.P, VL b c z (rsM w M (w.getD 1 0 % (T + 1)) (1 + w.getD 0 0 % F)), m) := by
  have h0 := getD_lt hb 0
  have h1 := getD_lt hb 1
  have hr := Nat.mod_lt (w.getD 0 0) (show 0 < F by omega)
  have hn := Nat.mod_lt (w.getD 1 0) (show 0 < T + 1 by omega)
  have a0 := bys_at (show 0 < w.length by omega)
  have a1 := bys_at (show 1 < w.length by omega)
  have hbl : (bys w).length = 26 := by simp [hw]
  have w0 : IntKind.i64.wrap ((w.getD 0 0 : Nat) : Int) = ((w.getD 0 0 : Nat) : Int) := wrap_in (by omega)
  have w1 : IntKind.i64.wrap ((w.getD 1 0 : Nat) : Int) = ((w.getD 1 0 : Nat) : Int) := wrap_in (by omega)
  have wT : IntKind.i64.wrap ((T : Int) + 1) = ((T + 1 : Nat) : Int) := by rw [wrap_in (by omega)]; simp
  have r0 := rem_nat (w.getD 0 0) F (by omega)
  have r1 := rem_nat (w.getD 1 0) (T + 1) (by omega)
  have wr : IntKind.i64.wrap (1 + ((w.getD 0 0 % F : Nat) : Int)) = ((1 + w.getD 0 0 % F : Nat) : Int) := by rw [wrap_in (by omega)]; simp
  obtain ⟨m', vo, e, H⟩ := made_outer w hw hb M hM (w.getD 1 0 % (T + 1)) (by omega) (1 + w.getD 0 0 % F) (by omega) (1 + w.getD 0 0 % F) 0 [⟨bys w, true⟩] (.lst true true 0 0 []) (by omega) rfl (Lst.nil _ 1) (fun h => h)
  obtain ⟨b, c, z, ids, _, _, _, hv⟩ := H.view (rl_pures _) (by omega)
  refine ⟨b, c, z, fun m => ?_⟩
  have hle4 : 1 + w.getD 0 0 % F ≤ 4 := by omega
  have hpure : LV.pures [LV.agg (bys w), .int .i64 (F : Int), .int .i64 (T : Int), .int .i64 (M : Int)] = true := by simp only [LV.pures, LV.pure, pures_int, Bool.and_true]
  have hview : view 40 m' vo = some (VL b c z (rsM w M (w.getD 1 0 % (T + 1)) (1 + w.getD 0 0 % F)), ids) := by
    have e5 : VL b c z (rsM w M (w.getD 1 0 % (T + 1)) (1 + w.getD 0 0 % F)) = .lst b c z (1 + w.getD 0 0 % F) ((rowsM w M (w.getD 1 0 % (T + 1)) (1 + w.getD 0 0 % F)).map RL) := by
      show LV.lst b c z (rsM w M (w.getD 1 0 % (T + 1)) (1 + w.getD 0 0 % F)).length ((rsM w M (w.getD 1 0 % (T + 1)) (1 + w.getD 0 0 % F)).map Row.lv) = _
      rw [rsM_lv, rsM_len]
    rw [hv 37, e5]
  refine call_Pv lp_law07_Heap_made rfl hpure ?_ hview m
  simp only [Int.natCast_zero] at e
  generalize 1 + w.getD 0 0 % F = r at *
  generalize w.getD 1 0 % (T + 1) = n at *
  generalize w.getD 0 0 % F = rr at *
  generalize w.getD 0 0 = x0 at *
  generalize w.getD 1 0 = x1 at *
  generalize bys w = W at *
  simp only [law07_Heap_made, law07_Heap_made.B, sliceArrL, optNatL, Option.map_none, Option.map_some, nble, Nat.zero_le, Nat.add_zero, Nat.sub_zero, beqT, beqF, exF_seq, exF_region, exF_block, exF_cond, exF_ret, exF_exit, exF_skip, runL, wantL, stepL, evL, evC, LEnv.at, putL, loadFine, loadL, cellsAt, Trk.putNew, Trk.up, Trk.touch, Trk.gives, Trk.calm, Trk.hit, opdsOf, Trk.fresh, LEnv.keep, LEnv.ofFrom, List.map_cons, List.map_nil, nbeq, nble, nblt, ofAV, ofAVs, lenL, bin_add, bin_sub, bin_mul, bin_eql, bin_neq, bin_lss, bin_leq, bin_gtr, bin_geq, natL_nat, natL_zero, natL_one, natL_two, Nat.zero_mul, List.any_cons, List.any_nil, Bool.or_false, Bool.false_or, Bool.true_or, Bool.or_true, Bool.and_true, Bool.true_and, Bool.and_false, Bool.false_and, Bool.not_true, Bool.not_false, Nat.reduceBEq, Nat.reduceEqDiff, decide_true, decide_false, cond_true, cond_false, List.filter_nil, List.filter_cons, Nat.reduceAdd, Nat.reduceLeDiff, reduceCtorEq, List.length_nil, List.length_cons, Nat.mul_one, if_true, if_false, Bool.false_eq_true, eq_self, and_true, true_and, retL, resultsL, resAllL, resOfL, List.append_nil, List.nil_append, List.cons_append, true_or, or_true, false_or, or_false, false_and, and_false, not_true_eq_false, not_false_eq_true, ne_eq, unL, trim_nil, views_pures, LV.pures, LV.pure, freeze, Nat.reduceDiv, Int.reduceEq, Int.reduceLT, Int.reduceLE, Int.natCast_zero, LV.cells, allocL, List.getElem?_cons_zero, List.getElem?_cons_succ, storeL, spliceL, List.take_zero, List.take_succ_cons, List.drop_zero, List.drop_succ_cons, List.drop_nil, List.take_nil, Nat.le_refl, Nat.reduceMul, List.set_cons_zero, List.set_cons_succ, LV.scalar, List.all_cons, List.all_nil, Nat.lt_add_one, Nat.zero_lt_one, Nat.reduceLT, Nat.lt_irrefl, fillL, List.length_append, foldIntL, kind_beq, pures_int, solids_int, plains_int, unders_int, scalars_int, hbl, a0, a1, w0, w1, wT, r0, r1, wr, hle4, e]

/-! ### A list that calls are shown -/
theorem call_sh {C : LProg} {f : Nat} {lf : LFunc} (hC : C f = some lf) (hm : lf.mode = .P) {args vs : List LV} {ids : List Nat} {m : LMem} (hv : views m args = some (vs, ids)) (hp : LV.pures vs = true) {v : LV} (hc : clF C f vs [] = some (.P, v, [])) : clF C f args m = some (.P, v, m) ∨ clF C f args m = some (.P, v, freeze ids m) := by
  rw [clF_eq, hC] at hc ⊢
  simp only [callMode, hm, views_pures [] vs hp, hv] at hc ⊢
  split at hc
  · rename_i v1 m1 hr
    split at hc
    · rename_i v2 ids1 hv2
      simp only [Option.some.injEq, Prod.mk.injEq] at hc
      obtain ⟨_, rfl, _⟩ := hc
      cases (ids.isEmpty || (v2.plain || newIds v1 m1 ids1))
      · exact .inr rfl
      · exact .inl rfl
    · cases hc
  · cases hc
theorem view_at {m : LMem} {b n : Nat} {l : List Int} {o : Bool} (hn : l.length = n) (h : m[b]? = some ⟨ints l, o⟩) (hne : l ≠ []) : ∀ k, view (k + 3) m (.sl b 0 n n 1 1 n) = some (IL false false 1 l, [b]) := fun k => by
  have := view_sl k m b 0 n n 1 l o h hn (by omega) n (Nat.le_refl _)
  rw [List.drop_zero, List.take_of_length_le (by omega)] at this
  rw [this]
  have : n ≠ 0 := fun c => hne (List.length_eq_zero_iff.1 (by omega))
  simp [nbeq, this]
def Hold (m : LMem) (v : LV) (l : List Int) : Prop :=
  (l = [] ∧ v = .lst true true 0 0 []) ∨ (l ≠ [] ∧ ∃ b o, v = .sl b 0 l.length l.length 1 1 l.length ∧ m[b]? = some ⟨ints l, o⟩)
theorem Hold.mono {m m' : LMem} {v : LV} {l : List Int} (H : Hold m v l) (h : ∀ i, isBlk v i → m'[i]? = m[i]?) : Hold m' v l := by
  rcases H with H | ⟨h1, b, o, h2, h3⟩
  · exact .inl H
  · exact .inr ⟨h1, b, o, h2, by rw [h b (by rw [h2]; rfl)]; exact h3⟩
/-- A list with other arguments that are values. -/
theorem views_in (m : LMem) (a v v' : LV) (ids : List Nat) (r : List LV) (hv : ∀ k, view (k + 3) m v = some (v', ids)) (ha : a.pure = true) (hr : LV.pures r = true) (hnp : v.pure = false) (hl : r.length ≤ 4) : views m (a :: v :: r) = some (a :: v' :: r, ids) := by
  have hva : ∀ k, view (k + 3) m a = some (a, []) := fun k => view_pure (k + 1) m a ha
  have hC : ∀ (r : List LV) k, LV.pures r = true → r.length + 4 ≤ k → viewC k m r = some (r, []) := by
    intro r
    induction r with
    | nil =>
      intro k _ hk
      obtain ⟨k, rfl⟩ : ∃ q, k = q + 1 := ⟨k - 1, by omega⟩
      rw [viewC.eq_def]
    | cons x r ih =>
      intro k hp hk
      obtain ⟨k, rfl⟩ : ∃ q, k = q + 4 := ⟨k - 4, by omega⟩
      simp only [LV.pures, Bool.and_eq_true] at hp
      simp only [List.length_cons] at hk
      rw [viewC.eq_def]
      simp only [view_pure (k + 1) m x hp.1, ih (k + 3) hp.2 (by omega)]
      rfl
  have hp : LV.pures (a :: v :: r) = false := by simp only [LV.pures, hnp, Bool.false_and, Bool.and_false]
  unfold views
  rw [viewL.eq_def]
  simp only [hp, cond_false]
  rw [viewC.eq_def]
  simp only [hva 35]
  rw [viewC.eq_def]
  simp only [hv 34]
  rw [hC r 37 hr (by omega)]
  simp
theorem Hold.call {m : LMem} {v : LV} {l : List Int} (H : Hold m v l) {f : Nat} {lf : LFunc} (hC : LP f = some lf) (hmd : lf.mode = .P) {a : LV} (ha : a.pure = true) {r : List LV} (hr : LV.pures r = true) (hlr : r.length ≤ 4) {x : LV} (hc : ∀ (b c : Bool) (z : Nat), (l = [] ∨ z = 1) → (b = true → l = []) → ∀ m, clF LP f (a :: IL b c z l :: r) m = some (.P, x, m)) :
    ∃ m', clF LP f (a :: v :: r) m = some (.P, x, m') ∧ Hold m' v l ∧ (∀ i, ¬ isBlk v i → m'[i]? = m[i]?) ∧ m'.length = m.length := by
  rcases H with ⟨h1, h2⟩ | ⟨h1, b, o, h2, h3⟩
  · subst h1
    subst h2
    exact ⟨m, hc true true 0 (.inl rfl) (fun _ => rfl) m, .inl ⟨rfl, rfl⟩, fun _ _ => rfl, rfl⟩
  · subst h2
    have hv := views_in m a _ _ _ r (view_at rfl h3 h1) ha hr (by simp [LV.pure]) hlr
    have hpv : LV.pures (a :: IL false false 1 l :: r) = true := by simp only [LV.pures, LV.pure, ha, hr, pures_int, Bool.and_true]
    rcases call_sh hC hmd hv hpv (hc false false 1 (.inr rfl) (fun h => by cases h) []) with h | h
    · exact ⟨m, h, .inr ⟨h1, b, o, rfl, h3⟩, fun _ _ => rfl, rfl⟩
    · refine ⟨_, h, .inr ⟨h1, b, false, rfl, ?_⟩, fun i hi => ?_, Go.Am.G.freeze_length _ _⟩
      · have hb := (List.getElem?_eq_some_iff.1 h3).1
        simp only [freeze, freeze1, h3]
        rw [List.getElem?_set_self hb]
      · exact Go.Am.G.freeze_get i [b] m (by simp; intro e; exact hi (by rw [e]; rfl))

end Go.Am.Share

/-
  What functions of chapter 07 compute, outright 7: worths of a list in memory; all divisions are gone through, one after the other.
-/
set_option linter.unusedVariables false
set_option linter.unusedSimpArgs false
set_option maxRecDepth 10000
set_option maxHeartbeats 400000
namespace Go.Am.Share
open Go.Am.G

/-! ### Worths of a list that somebody else writes -/
theorem viewC_rowsM (n : Nat) (hn : 0 < n) (m : LMem) (W : Nat → List Int) (hW : ∀ j, (W j).length = n) : ∀ (l : List Nat) (k : Nat), l.length + 4 ≤ k → (∀ j ∈ l, m[1 + j]? = some ⟨ints (W j), true⟩) → viewC k m (l.map (SLr n)) = some (l.map (fun j => IL false true 1 (W j)), l.map (1 + ·))
  | [], k, hk, _ => by
    obtain ⟨k, rfl⟩ : ∃ q, k = q + 1 := ⟨k - 1, by omega⟩
    rw [viewC.eq_def]; simp
  | j :: r, k, hk, h => by
    obtain ⟨k, rfl⟩ : ∃ q, k = q + 4 := ⟨k - 4, by omega⟩
    simp only [List.length_cons] at hk
    have hj := h j (by simp)
    have v1 : view (k + 3) m (SLr n j) = some (IL false true 1 (W j), [1 + j]) := by
      have := view_slc k m (1 + j) 0 n n 0 n 1 (ints (W j)) true hj (by rw [List.drop_zero, List.take_of_length_le (by simp [hW])]; exact pures_int _ _) (by simp [hW]) (by omega) (Nat.le_refl _)
      rw [List.drop_zero, List.take_of_length_le (by simp [hW])] at this
      rw [this]
      simp [nbeq, hW j]
    have hr := viewC_rowsM n hn m W hW r (k + 3) (by omega) (fun q hq => h q (by simp [hq]))
    rw [List.map_cons, viewC.eq_def]
    simp only [v1, hr]
    rfl
theorem solids_sl (n : Nat) (l : List Nat) : LV.solids (l.map (SLr n)) = true := by
  induction l with
  | nil => rfl
  | cons a r ih => simp [LV.solids, LV.solid, ih]
theorem worths_run (nl ex nl' ex' : Bool) (sz sz' : Nat) {rs : List Row} {o : List Int} (D : LOk rs o) : ∃ v1 m1 ids1, retL law07_worths.results (exF LP law07_worths.body (LEnv.ofFrom 0 [VL nl ex sz rs, IL nl' ex' sz' o]) []) = some (v1, m1) ∧ view 40 m1 v1 = some (VL false true 1 (WR (vals rs) o), ids1) ∧ newIds v1 m1 ids1 = true := by
  have h4 := D.le4
  have hpos := D.pos
  obtain ⟨m', a1, a2, a3⟩ := worths_outer nl ex nl' ex' sz sz' D rs.length 0 [⟨cells0 rs.length 0, true⟩] (by omega) rfl rfl (fun j hj => by omega)
  have hW : ∀ j, (wrow (vals rs) o j 0 rs.length).length = rs.length := fun j => wrow_len _ _ _ _
  have hv := viewC_rowsM rs.length hpos m' (fun j => wrow (vals rs) o j 0 rs.length) hW (List.range rs.length) 38 (by simp; omega) (fun j hj => a3 j (by simpa using hj))
  have hc : cells0 rs.length rs.length = (List.range rs.length).map (SLr rs.length) := by
    unfold cells0
    refine List.map_congr_left fun j hj => ?_
    rw [if_pos (by simpa using hj)]
  have hnp : LV.pures ((List.range rs.length).map (SLr rs.length)) = false := by
    obtain ⟨q, hq⟩ : ∃ q, rs.length = q + 1 := ⟨rs.length - 1, by omega⟩
    rw [hq, List.range_succ_eq_map]
    simp [LV.pures, LV.pure]
  have hne : (List.range rs.length).map (SLr rs.length) ≠ [] := by
    intro e
    have := congrArg List.length e
    rw [List.length_map, List.length_range, List.length_nil] at this
    omega
  have hsol := solids_sl rs.length (List.range rs.length)
  have hview : view 40 m' (.sl 0 0 rs.length rs.length 0 1 rs.length) = some (VL false true 1 (WR (vals rs) o), 0 :: (List.range rs.length).map (1 + ·)) := by
    rw [view.eq_def]
    simp only [a2, cells0_len, nbeq, nble, Nat.mul_one, Nat.zero_add, Nat.le_refl, decide_true, Bool.and_self, cond_true, List.drop_zero]
    rw [List.take_of_length_le (by rw [cells0_len]; omega), hc]
    have hL : viewL 39 m' ((List.range rs.length).map (SLr rs.length)) = some ((List.range rs.length).map (fun j => IL false true 1 (wrow (vals rs) o j 0 rs.length)), (List.range rs.length).map (1 + ·)) := by
      obtain ⟨a, r, hq⟩ := List.exists_cons_of_ne_nil hne
      rw [hq] at hnp hv ⊢
      rw [viewL.eq_def]
      simp only [hnp, cond_false]
      exact hv
    rw [hL]
    simp [WR, vals_length]
  refine ⟨_, _, _, ?_, hview, ?_⟩
  · have hrm : rs.length * 24 ≤ roomMost := by unfold roomMost; omega
    have hrm2 : rs.length ≤ roomMost := by unfold roomMost; omega
    have hz : ofAVs [.nilslice] = [.lst true true 0 0 []] := rfl
    have hzz := zeros_nil rs.length
    rw [Nat.mul_one] at hzz
    simp only [Int.natCast_zero] at a1
    simp only [law07_worths, law07_worths.B, beqT, beqF, exF_seq, exF_region, exF_block, exF_cond, exF_ret, exF_exit, exF_skip, runL, wantL, stepL, evL, evC, LEnv.at, putL, loadFine, loadL, cellsAt, Trk.putNew, Trk.up, Trk.touch, Trk.gives, Trk.calm, Trk.hit, opdsOf, Trk.fresh, LEnv.keep, LEnv.ofFrom, List.map_cons, List.map_nil, nbeq, nble, nblt, ofAV, ofAVs, lenL, bin_add, bin_sub, bin_mul, bin_eql, bin_neq, bin_lss, bin_leq, bin_gtr, bin_geq, natL_nat, natL_zero, natL_one, natL_two, Nat.zero_mul, List.any_cons, List.any_nil, Bool.or_false, Bool.false_or, Bool.true_or, Bool.or_true, Bool.and_true, Bool.true_and, Bool.and_false, Bool.false_and, Bool.not_true, Bool.not_false, Nat.reduceBEq, Nat.reduceEqDiff, decide_true, decide_false, cond_true, cond_false, List.filter_nil, List.filter_cons, Nat.reduceAdd, Nat.reduceLeDiff, reduceCtorEq, List.length_nil, List.length_cons, Nat.mul_one, if_true, if_false, Bool.false_eq_true, eq_self, and_true, true_and, retL, resultsL, resAllL, resOfL, List.append_nil, List.nil_append, List.cons_append, true_or, or_true, false_or, or_false, false_and, and_false, not_true_eq_false, not_false_eq_true, ne_eq, unL, trim_nil, views_pures, LV.pures, LV.pure, freeze, Nat.reduceDiv, Int.reduceEq, Int.reduceLT, Int.reduceLE, Int.natCast_zero, LV.cells, allocL, List.getElem?_cons_zero, List.getElem?_cons_succ, storeL, spliceL, List.take_zero, List.take_succ_cons, List.drop_zero, List.drop_succ_cons, List.drop_nil, List.take_nil, Nat.le_refl, Nat.reduceMul, List.set_cons_zero, List.set_cons_succ, LV.scalar, List.all_cons, List.all_nil, Nat.lt_add_one, Nat.zero_lt_one, Nat.reduceLT, Nat.lt_irrefl, fillL, List.length_append, foldIntL, kind_beq, pures_int, solids_int, plains_int, unders_int, scalars_int, hrm, hrm2, hz, hzz, a1]
  · unfold newIds
    simp only [LV.solid, Bool.true_and, List.all_cons, a2, hc, hsol, List.all_map, List.all_eq_true, Function.comp_apply, Bool.and_eq_true]
    refine fun j hj => ?_
    rw [a3 j (by simpa using hj)]
    simp [solids_int]
theorem worths_m (nl ex : Bool) (sz : Nat) {rs : List Row} {o : List Int} (D : LOk rs o) {m : LMem} {i L : Nat} {b : Bool} (hb : m[i]? = some ⟨ints o, b⟩) (hL : o.length = L) : clF LP n_law07_worths [VL nl ex sz rs, SLo i L] m = some (.P, VL false true 1 (WR (vals rs) o), m) := by
  have hpv : (VL nl ex sz rs).pure = true := by simp only [LV.pure, pures_row]
  have hv1 : ∀ k, view (k + 3) m (SLo i L) = some (IL false true 1 o, [i]) := fun k => by
    have := view_slc k m i 0 L L 0 L 1 (ints o) b hb (by rw [List.drop_zero, List.take_of_length_le (by simp [hL])]; exact pures_int _ _) (by simp [hL]) (by omega) (Nat.le_refl _)
    rw [List.drop_zero, List.take_of_length_le (by simp [hL])] at this
    rw [this]
    simp [nbeq, hL]
  have hv := views_in m (VL nl ex sz rs) (SLo i L) _ _ [] hv1 hpv rfl rfl (by simp)
  obtain ⟨v1, m1, ids1, h1, h2, h3⟩ := worths_run nl ex false true sz 1 D
  rw [clF_eq, lp_law07_worths]
  simp only [callMode, show law07_worths.mode = .P from rfl, hv, h1, h2, h3, Bool.or_true, cond_true]

/-! ### The next division -/
def incF (N : Nat) : Nat → List Int → Bool × List Int
  | 0, o => (false, o)
  | n + 1, o => if o.getD n 0 + 1 < (N : Int) then (true, o.set n (o.getD n 0 + 1)) else incF N n (o.set n 0)
theorem allR_mem (N : Nat) : ∀ (d : Nat) (q : List Int), q ∈ allR N d → ∀ y ∈ q, 0 ≤ y ∧ y < (N : Int)
  | 0, q, h, y, hy => by simp [allR] at h; subst h; cases hy
  | d + 1, q, h, y, hy => by
    simp only [allR, List.mem_flatMap, List.mem_map, List.mem_range'_1] at h
    obtain ⟨j, hj, r, hr, rfl⟩ := h
    rcases List.mem_cons.1 hy with rfl | hy
    · omega
    · exact allR_mem N d r hr y hy
/-- What was gone through so far. -/
structure Gone (N L : Nat) (h : List (List Int)) : Prop where
  few : h.length < 5000
  all : ∀ x ∈ h, x.length = L ∧ ∀ y ∈ x, 0 ≤ y ∧ y < (N : Int)
/-- A visitor of lists that lie in memory: what the memory is, after so many lists. -/
structure DVis (N L : Nat) where
  mem : List (List Int) → List Int → LMem
  f : Nat
  cap : List LV
  b : Nat
  own : List (List Int) → Bool
  hown : ∀ h, 0 < L → own h = true
  hb : ∀ h o, o.length = L → (mem h o)[b]? = some ⟨ints o, own h⟩
  hset : ∀ h o k x, o.length = L → k < L → (mem h o).set b ⟨ints (o.set k x), true⟩ = mem h (o.set k x)
  hvis : ∀ h o, Gone N L h → o.length = L → (∀ x ∈ o, 0 ≤ x ∧ x < (N : Int)) → clF LP f (SLo b L :: cap) (mem h o) = some (.W, .tup [], mem (h ++ [o]) o)
theorem allR_count (N : Nat) : ∀ d, (allR N d).length = N ^ d
  | 0 => rfl
  | d + 1 => by
    rw [allR, List.length_flatMap]
    simp only [List.length_map, allR_count N d, List.map_const', List.length_range', List.sum_replicate_nat]
    rw [Nat.pow_succ, Nat.mul_comm]
section
variable {L : Nat} (rs : List Row) (X : DVis rs.length L) (nl ex : Bool) (sz : Nat) (hN : rs.length ≤ 4) (hL : L ≤ 6)
include hN hL
theorem inc_loop (n : Nat) : ∀ (s : List (List Int)) (o : List Int), n ≤ L → o.length = L → (∀ x ∈ o, 0 ≤ x ∧ x < (rs.length : Int)) →
    ∃ k : Int, exF LP law07_divisions.L0 [(0, VL nl ex sz rs), (1, .func X.f [] X.cap), (4, SLo X.b L), (5, .int .i64 ((n : Int) - 1))] (X.mem s o) =
      some (.exit 2, [(0, VL nl ex sz rs), (1, .func X.f [] X.cap), (4, SLo X.b L), (5, .int .i64 k)], X.mem s (incF rs.length n o).2) ∧ (k < 0 ↔ (incF rs.length n o).1 = false) := by
  induction n with
  | zero =>
    intro s o hn ho hr
    refine ⟨-1, ?_, by simp [incF]⟩
    have e0 : (((0 : Nat) : Int) - 1) = -1 := rfl
    rw [law07_divisions.L0_eq, e0]
    simp only [law07_divisions.B0, beqT, beqF, exF_seq, exF_region, exF_block, exF_cond, exF_ret, exF_exit, exF_skip, runL, wantL, stepL, evL, evC, LEnv.at, putL, loadFine, loadL, cellsAt, Trk.putNew, Trk.up, Trk.touch, Trk.gives, Trk.calm, Trk.hit, opdsOf, Trk.fresh, LEnv.keep, LEnv.ofFrom, List.map_cons, List.map_nil, nbeq, nble, nblt, ofAV, ofAVs, lenL, bin_add, bin_sub, bin_mul, bin_eql, bin_neq, bin_lss, bin_leq, bin_gtr, bin_geq, natL_nat, natL_zero, natL_one, natL_two, Nat.zero_mul, List.any_cons, List.any_nil, Bool.or_false, Bool.false_or, Bool.true_or, Bool.or_true, Bool.and_true, Bool.true_and, Bool.and_false, Bool.false_and, Bool.not_true, Bool.not_false, Nat.reduceBEq, Nat.reduceEqDiff, decide_true, decide_false, cond_true, cond_false, List.filter_nil, List.filter_cons, Nat.reduceAdd, Nat.reduceLeDiff, reduceCtorEq, List.length_nil, List.length_cons, Nat.mul_one, if_true, if_false, Bool.false_eq_true, eq_self, and_true, true_and, retL, resultsL, resAllL, resOfL, List.append_nil, List.nil_append, List.cons_append, true_or, or_true, false_or, or_false, false_and, and_false, not_true_eq_false, not_false_eq_true, ne_eq, unL, trim_nil, views_pures, LV.pures, LV.pure, freeze, Nat.reduceDiv, Int.reduceEq, Int.reduceLT, Int.reduceLE, Int.natCast_zero, LV.cells, allocL, List.getElem?_cons_zero, List.getElem?_cons_succ, storeL, spliceL, List.take_zero, List.take_succ_cons, List.drop_zero, List.drop_succ_cons, List.drop_nil, List.take_nil, Nat.le_refl, Nat.reduceMul, List.set_cons_zero, List.set_cons_succ, LV.scalar, List.all_cons, List.all_nil, Nat.lt_add_one, Nat.zero_lt_one, Nat.reduceLT, Nat.lt_irrefl, fillL, List.length_append, foldIntL, kind_beq, pures_int, solids_int, plains_int, unders_int, scalars_int, incF, ge_iff_le]
  | succ n ih =>
    intro s o hn ho hr
    have hnL : n < L := by omega
    have hno : n < o.length := by omega
    have hx : 0 ≤ o.getD n 0 ∧ o.getD n 0 < (rs.length : Int) := by
      rw [List.getD_eq_getElem?_getD, List.getElem?_eq_getElem hno]
      exact hr _ (List.getElem_mem hno)
    have e1 : (((n + 1 : Nat) : Int) - 1) = (n : Int) := by omega
    have hb := X.hb s o ho
    rw [X.hown s (by omega)] at hb
    have hil : (ints o).length = L := by simp [ho]
    have hgt := int_get hno
    have hw : IntKind.i64.wrap (o.getD n 0 + 1) = o.getD n 0 + 1 := wrap_in (by omega)
    have hs1 := set_int .i64 o n (o.getD n 0 + 1) hno
    have hset := X.hset s o n (o.getD n 0 + 1) ho hnL
    have ho1 : (o.set n (o.getD n 0 + 1)).length = L := by simpa using ho
    have hb1 := X.hb s _ ho1
    rw [X.hown s (by omega)] at hb1
    have hil1 : (ints (o.set n (o.getD n 0 + 1))).length = L := by simp [ho]
    have hno1 : n < (o.set n (o.getD n 0 + 1)).length := by omega
    have hgt1 := int_get hno1
    rw [setI_at _ hno, if_pos rfl] at hgt1
    have hs2 := set_int .i64 (o.set n (o.getD n 0 + 1)) n 0 hno1
    have hset2 := X.hset s (o.set n (o.getD n 0 + 1)) n 0 ho1 hnL
    rw [List.set_set] at hs2 hset2
    have hw2 : IntKind.i64.wrap ((n : Int) - 1) = (n : Int) - 1 := wrap_in (by omega)
    have l0 : lenL (VL nl ex sz rs) = some rs.length := rfl
    have hn1 : n + 1 ≤ L := hnL
    have hge : (0 : Int) ≤ (n : Int) := by omega
    have hbl := (List.getElem?_eq_some_iff.1 hb).1
    have hbl2 : ¬ (X.mem s o).length ≤ X.b := by omega
    rw [incF, e1]
    by_cases c : o.getD n 0 + 1 < (rs.length : Int)
    · rw [if_pos c]
      refine ⟨(n : Int), ?_, by simp⟩
      rw [law07_divisions.L0_eq]
      generalize o.getD n 0 = x at *
      generalize VL nl ex sz rs = VV at *
      simp (maxSteps := 1000000) only [law07_divisions.B0, beqT, beqF, exF_seq, exF_region, exF_block, exF_cond, exF_ret, exF_exit, exF_skip, runL, wantL, stepL, evL, evC, LEnv.at, putL, loadFine, loadL, cellsAt, Trk.putNew, Trk.up, Trk.touch, Trk.gives, Trk.calm, Trk.hit, opdsOf, Trk.fresh, LEnv.keep, LEnv.ofFrom, List.map_cons, List.map_nil, nbeq, nble, nblt, ofAV, ofAVs, bin_add, bin_sub, bin_mul, bin_eql, bin_neq, bin_lss, bin_leq, bin_gtr, bin_geq, natL_nat, natL_zero, natL_one, natL_two, Nat.zero_mul, List.any_cons, List.any_nil, Bool.or_false, Bool.false_or, Bool.true_or, Bool.or_true, Bool.and_true, Bool.true_and, Bool.and_false, Bool.false_and, Bool.not_true, Bool.not_false, Nat.reduceBEq, Nat.reduceEqDiff, decide_true, decide_false, cond_true, cond_false, List.filter_nil, List.filter_cons, Nat.reduceAdd, Nat.reduceLeDiff, reduceCtorEq, List.length_nil, List.length_cons, Nat.mul_one, if_true, if_false, Bool.false_eq_true, eq_self, and_true, true_and, retL, resultsL, resAllL, resOfL, List.append_nil, List.nil_append, List.cons_append, true_or, or_true, false_or, or_false, false_and, and_false, not_true_eq_false, not_false_eq_true, ne_eq, unL, trim_nil, views_pures, LV.pures, LV.pure, freeze, Nat.reduceDiv, Int.reduceEq, Int.reduceLT, Int.reduceLE, Int.natCast_zero, LV.cells, allocL, List.getElem?_cons_zero, List.getElem?_cons_succ, storeL, spliceL, List.take_zero, List.take_succ_cons, List.drop_zero, List.drop_succ_cons, List.drop_nil, List.take_nil, Nat.le_refl, Nat.reduceMul, List.set_cons_zero, List.set_cons_succ, LV.scalar, List.all_cons, List.all_nil, Nat.lt_add_one, Nat.zero_lt_one, Nat.reduceLT, Nat.lt_irrefl, fillL, List.length_append, foldIntL, kind_beq, pures_int, solids_int, plains_int, unders_int, scalars_int, hge, hb, hil, hnL, hn1, Nat.zero_add, hgt, hw, hs1, hset, hb1, hil1, hgt1, l0, c, ge_iff_le]
    · rw [if_neg c]
      obtain ⟨k, e, hk⟩ := ih s (o.set n 0) (by omega) (by simpa using ho) (fun x hx => by
        rcases List.mem_or_eq_of_mem_set hx with h | h
        · exact hr x h
        · omega)
      refine ⟨k, ?_, hk⟩
      rw [law07_divisions.L0_eq, ← e]
      generalize o.getD n 0 = x at *
      generalize VL nl ex sz rs = VV at *
      simp (maxSteps := 1000000) only [law07_divisions.B0, beqT, beqF, exF_seq, exF_region, exF_block, exF_cond, exF_ret, exF_exit, exF_skip, runL, wantL, stepL, evL, evC, LEnv.at, putL, loadFine, loadL, cellsAt, Trk.putNew, Trk.up, Trk.touch, Trk.gives, Trk.calm, Trk.hit, opdsOf, Trk.fresh, LEnv.keep, LEnv.ofFrom, List.map_cons, List.map_nil, nbeq, nble, nblt, ofAV, ofAVs, bin_add, bin_sub, bin_mul, bin_eql, bin_neq, bin_lss, bin_leq, bin_gtr, bin_geq, natL_nat, natL_zero, natL_one, natL_two, Nat.zero_mul, List.any_cons, List.any_nil, Bool.or_false, Bool.false_or, Bool.true_or, Bool.or_true, Bool.and_true, Bool.true_and, Bool.and_false, Bool.false_and, Bool.not_true, Bool.not_false, Nat.reduceBEq, Nat.reduceEqDiff, decide_true, decide_false, cond_true, cond_false, List.filter_nil, List.filter_cons, Nat.reduceAdd, Nat.reduceLeDiff, reduceCtorEq, List.length_nil, List.length_cons, Nat.mul_one, if_true, if_false, Bool.false_eq_true, eq_self, and_true, true_and, retL, resultsL, resAllL, resOfL, List.append_nil, List.nil_append, List.cons_append, true_or, or_true, false_or, or_false, false_and, and_false, not_true_eq_false, not_false_eq_true, ne_eq, unL, trim_nil, views_pures, LV.pures, LV.pure, freeze, Nat.reduceDiv, Int.reduceEq, Int.reduceLT, Int.reduceLE, Int.natCast_zero, LV.cells, allocL, List.getElem?_cons_zero, List.getElem?_cons_succ, storeL, spliceL, List.take_zero, List.take_succ_cons, List.drop_zero, List.drop_succ_cons, List.drop_nil, List.take_nil, Nat.le_refl, Nat.reduceMul, List.set_cons_zero, List.set_cons_succ, LV.scalar, List.all_cons, List.all_nil, Nat.lt_add_one, Nat.zero_lt_one, Nat.reduceLT, Nat.lt_irrefl, fillL, List.length_append, foldIntL, kind_beq, pures_int, solids_int, plains_int, unders_int, scalars_int, hge, hb, hil, hnL, hn1, Nat.zero_add, hgt, hw, hs1, hset, hb1, hil1, hgt1, l0, c, hs2, hset2, hw2, ge_iff_le]
/-- What comes after a list. -/
noncomputable def contD (s : List (List Int)) (n : Nat) (o : List Int) : Option (AExit × LEnv × LMem) :=
  if (incF rs.length n o).1 then exF LP law07_divisions.L1 [(0, VL nl ex sz rs), (1, .func X.f [] X.cap), (4, SLo X.b L)] (X.mem s (incF rs.length n o).2) else some (.ret, [], X.mem s (incF rs.length n o).2)
theorem div_step (s : List (List Int)) (hs : Gone rs.length L s) (o : List Int) (ho : o.length = L) (hr : ∀ x ∈ o, 0 ≤ x ∧ x < (rs.length : Int)) :
    exF LP law07_divisions.L1 [(0, VL nl ex sz rs), (1, .func X.f [] X.cap), (4, SLo X.b L)] (X.mem s o) = contD rs X nl ex sz (s ++ [o]) L o := by
  have hv := X.hvis s o hs ho hr
  obtain ⟨k, e, hk⟩ := inc_loop rs X nl ex sz hN hL L (s ++ [o]) o (Nat.le_refl _) ho hr
  have hw : IntKind.i64.wrap ((L : Int) - 1) = (L : Int) - 1 := wrap_in (by omega)
  have lS : lenL (SLo X.b L) = some L := rfl
  rw [law07_divisions.L1_eq]
  unfold contD
  generalize VL nl ex sz rs = VV at *
  cases hc : (incF rs.length L o).1
  · have hk0 : k < 0 := hk.2 hc
    simp (maxSteps := 1000000) only [law07_divisions.B1, beqT, beqF, exF_seq, exF_region, exF_block, exF_cond, exF_ret, exF_exit, exF_skip, runL, wantL, stepL, evL, evC, LEnv.at, putL, loadFine, loadL, cellsAt, Trk.putNew, Trk.up, Trk.touch, Trk.gives, Trk.calm, Trk.hit, opdsOf, Trk.fresh, LEnv.keep, LEnv.ofFrom, List.map_cons, List.map_nil, nbeq, nble, nblt, ofAV, ofAVs, bin_add, bin_sub, bin_mul, bin_eql, bin_neq, bin_lss, bin_leq, bin_gtr, bin_geq, natL_nat, natL_zero, natL_one, natL_two, Nat.zero_mul, List.any_cons, List.any_nil, Bool.or_false, Bool.false_or, Bool.true_or, Bool.or_true, Bool.and_true, Bool.true_and, Bool.and_false, Bool.false_and, Bool.not_true, Bool.not_false, Nat.reduceBEq, Nat.reduceEqDiff, decide_true, decide_false, cond_true, cond_false, List.filter_nil, List.filter_cons, Nat.reduceAdd, Nat.reduceLeDiff, reduceCtorEq, List.length_nil, List.length_cons, Nat.mul_one, if_true, if_false, Bool.false_eq_true, eq_self, and_true, true_and, retL, resultsL, resAllL, resOfL, List.append_nil, List.nil_append, List.cons_append, true_or, or_true, false_or, or_false, false_and, and_false, not_true_eq_false, not_false_eq_true, ne_eq, unL, trim_nil, views_pures, LV.pures, LV.pure, freeze, Nat.reduceDiv, Int.reduceEq, Int.reduceLT, Int.reduceLE, Int.natCast_zero, LV.cells, allocL, List.getElem?_cons_zero, List.getElem?_cons_succ, storeL, spliceL, List.take_zero, List.take_succ_cons, List.drop_zero, List.drop_succ_cons, List.drop_nil, List.take_nil, Nat.le_refl, Nat.reduceMul, List.set_cons_zero, List.set_cons_succ, LV.scalar, List.all_cons, List.all_nil, Nat.lt_add_one, Nat.zero_lt_one, Nat.reduceLT, Nat.lt_irrefl, fillL, List.length_append, foldIntL, kind_beq, pures_int, solids_int, plains_int, unders_int, scalars_int, hv, lS, hw, e, hk0]
  · have hk0 : ¬ k < 0 := fun h => by rw [hk.1 h] at hc; cases hc
    simp (maxSteps := 1000000) only [law07_divisions.B1, beqT, beqF, exF_seq, exF_region, exF_block, exF_cond, exF_ret, exF_exit, exF_skip, runL, wantL, stepL, evL, evC, LEnv.at, putL, loadFine, loadL, cellsAt, Trk.putNew, Trk.up, Trk.touch, Trk.gives, Trk.calm, Trk.hit, opdsOf, Trk.fresh, LEnv.keep, LEnv.ofFrom, List.map_cons, List.map_nil, nbeq, nble, nblt, ofAV, ofAVs, bin_add, bin_sub, bin_mul, bin_eql, bin_neq, bin_lss, bin_leq, bin_gtr, bin_geq, natL_nat, natL_zero, natL_one, natL_two, Nat.zero_mul, List.any_cons, List.any_nil, Bool.or_false, Bool.false_or, Bool.true_or, Bool.or_true, Bool.and_true, Bool.true_and, Bool.and_false, Bool.false_and, Bool.not_true, Bool.not_false, Nat.reduceBEq, Nat.reduceEqDiff, decide_true, decide_false, cond_true, cond_false, List.filter_nil, List.filter_cons, Nat.reduceAdd, Nat.reduceLeDiff, reduceCtorEq, List.length_nil, List.length_cons, Nat.mul_one, if_true, if_false, Bool.false_eq_true, eq_self, and_true, true_and, retL, resultsL, resAllL, resOfL, List.append_nil, List.nil_append, List.cons_append, true_or, or_true, false_or, or_false, false_and, and_false, not_true_eq_false, not_false_eq_true, ne_eq, unL, trim_nil, views_pures, LV.pures, LV.pure, freeze, Nat.reduceDiv, Int.reduceEq, Int.reduceLT, Int.reduceLE, Int.natCast_zero, LV.cells, allocL, List.getElem?_cons_zero, List.getElem?_cons_succ, storeL, spliceL, List.take_zero, List.take_succ_cons, List.drop_zero, List.drop_succ_cons, List.drop_nil, List.take_nil, Nat.le_refl, Nat.reduceMul, List.set_cons_zero, List.set_cons_succ, LV.scalar, List.all_cons, List.all_nil, Nat.lt_add_one, Nat.zero_lt_one, Nat.reduceLT, Nat.lt_irrefl, fillL, List.length_append, foldIntL, kind_beq, pures_int, solids_int, plains_int, unders_int, scalars_int, hv, lS, hw, e, hk0]
omit hN hL in
theorem incF_at {p : List Int} {w : Int} {d : Nat} : incF rs.length (p.length + 1) (p ++ w :: List.replicate d 0) = if w + 1 < (rs.length : Int) then (true, p ++ (w + 1) :: List.replicate d 0) else incF rs.length p.length (p ++ 0 :: List.replicate d 0) := by
  rw [incF]
  have e : (p ++ w :: List.replicate d 0).getD p.length 0 = w := by simp [List.getD_eq_getElem?_getD]
  have es : ∀ x : Int, (p ++ w :: List.replicate d 0).set p.length x = p ++ x :: List.replicate d 0 := fun x => by simp [List.set_append]
  rw [e, es, es]
theorem div_all (h1 : 0 < rs.length) (d : Nat) : ∀ (p : List Int) (s : List (List Int)), p.length + d = L → (∀ x ∈ p, 0 ≤ x ∧ x < (rs.length : Int)) → s.length + rs.length ^ d < 5000 → (∀ x ∈ s, x.length = L ∧ ∀ y ∈ x, 0 ≤ y ∧ y < (rs.length : Int)) →
    exF LP law07_divisions.L1 [(0, VL nl ex sz rs), (1, .func X.f [] X.cap), (4, SLo X.b L)] (X.mem s (p ++ List.replicate d 0)) = contD rs X nl ex sz (s ++ (allR rs.length d).map (p ++ ·)) p.length (p ++ List.replicate d 0) := by
  induction d with
  | zero =>
    intro p s hp hr hsz hs
    have e : (allR rs.length 0).map (p ++ ·) = [p] := by simp [allR]
    rw [e]
    simp only [List.replicate_zero, List.append_nil]
    rw [div_step rs X nl ex sz hN hL s ⟨by omega, hs⟩ p (by omega) hr, show p.length = L by omega]
  | succ d ih =>
    intro p s hp hr hsz hs
    have inner : ∀ (j w : Nat) (s : List (List Int)), 1 ≤ j → w + j = rs.length → s.length + j * rs.length ^ d < 5000 → (∀ x ∈ s, x.length = L ∧ ∀ y ∈ x, 0 ≤ y ∧ y < (rs.length : Int)) →
        exF LP law07_divisions.L1 [(0, VL nl ex sz rs), (1, .func X.f [] X.cap), (4, SLo X.b L)] (X.mem s (p ++ (w : Int) :: List.replicate d 0)) = contD rs X nl ex sz (s ++ (List.range' w j).flatMap fun x : Nat => (allR rs.length d).map fun q => p ++ (x : Int) :: q) p.length (p ++ 0 :: List.replicate d 0) := by
      intro j
      induction j with
      | zero => intro w s hj; omega
      | succ j ihj =>
        intro w s _ hw hsz hs
        rw [Nat.add_mul, Nat.one_mul] at hsz
        have hp1 : ∀ x ∈ p ++ [(w : Int)], 0 ≤ x ∧ x < (rs.length : Int) := fun x hx => by
          rcases List.mem_append.1 hx with h | h
          · exact hr x h
          · rw [List.mem_singleton.1 h]; omega
        have h := ih (p ++ [(w : Int)]) s (by simp; omega) hp1 (by omega) hs
        rw [List.append_assoc, List.singleton_append] at h
        rw [h]
        have em : (allR rs.length d).map (p ++ [(w : Int)] ++ ·) = (allR rs.length d).map fun q => p ++ (w : Int) :: q := by simp
        rw [em, List.range'_succ, List.flatMap_cons, ← List.append_assoc]
        have hs2 : ∀ x ∈ s ++ ((allR rs.length d).map fun q => p ++ (w : Int) :: q), x.length = L ∧ ∀ y ∈ x, 0 ≤ y ∧ y < (rs.length : Int) := fun x hx => by
          rcases List.mem_append.1 hx with c | c
          · exact hs x c
          · obtain ⟨q, hq, rfl⟩ := List.mem_map.1 c
            refine ⟨by have := allR_length rs.length d q hq; simp; omega, fun y hy => ?_⟩
            rcases List.mem_append.1 hy with c | c
            · exact hr y c
            · rcases List.mem_cons.1 c with c | c
              · rw [c]; omega
              · exact allR_mem rs.length d q hq y c
        have hl2 : (s ++ ((allR rs.length d).map fun q => p ++ (w : Int) :: q)).length = s.length + rs.length ^ d := by rw [List.length_append, List.length_map, allR_count]
        generalize s ++ ((allR rs.length d).map fun q => p ++ (w : Int) :: q) = s2 at *
        rw [List.length_append, List.length_singleton]
        unfold contD
        rw [incF_at]
        by_cases c : (w : Int) + 1 < (rs.length : Int)
        · rw [if_pos c]
          simp only [if_true]
          have := ihj (w + 1) s2 (by omega) (by omega) (by rw [hl2]; omega) hs2
          rw [show ((w + 1 : Nat) : Int) = (w : Int) + 1 by omega] at this
          rw [this]
          rfl
        · rw [if_neg c]
          have hj0 : j = 0 := by omega
          subst hj0
          simp only [List.range'_zero, List.flatMap_nil, List.append_nil]
    have h := inner rs.length 0 s (by omega) (by omega) (by rw [Nat.pow_succ, Nat.mul_comm] at hsz; exact hsz) hs
    have e : (allR rs.length (d + 1)).map (p ++ ·) = (List.range' 0 rs.length).flatMap fun x : Nat => (allR rs.length d).map fun q => p ++ (x : Int) :: q := by
      rw [allR, List.map_flatMap]
      simp [Function.comp_def]
    rw [e]
    exact h
/-- All divisions are gone through. -/
theorem divisions_w (h1 : 0 < rs.length) (hrow : ((rs.map Row.lv)[0]?).map lenL = some (some L)) (m0 : LMem) (hm0 : m0 ++ [⟨ints (List.replicate L 0), true⟩] = X.mem [] (List.replicate L 0)) (hb : m0.length = X.b) :
    clF LP n_law07_divisions [VL nl ex sz rs, .func X.f [] X.cap] m0 = some (.W, .tup [], trim m0.length [.tup []] (X.mem (allR rs.length L) (List.replicate L 0))) := by
  have hp4 : rs.length ^ L ≤ 4096 := by
    have a := Nat.pow_le_pow_left hN L
    have b := Nat.pow_le_pow_right (n := 4) (by omega) hL
    have : 4 ^ 6 = 4096 := rfl
    omega
  have h := div_all rs X nl ex sz hN hL h1 L [] [] (by simp) (by simp) (by simp; omega) (by simp)
  simp only [List.nil_append, List.length_nil] at h
  have em : (allR rs.length L).map (fun x => x) = allR rs.length L := List.map_id' _
  rw [em] at h
  unfold contD at h
  simp only [incF, Bool.false_eq_true, if_false] at h
  obtain ⟨r0, hr0, hl0⟩ := Option.map_eq_some_iff.1 hrow
  have hrm : L * 8 ≤ roomMost := by unfold roomMost; omega
  have hrm2 : L ≤ roomMost := by unfold roomMost; omega
  have hz : ofAVs [.int .i64 0] = [.int .i64 0] := rfl
  have hzz := zeros_int L
  have hc := call_W (v := .tup []) (m1 := X.mem (allR rs.length L) (List.replicate L 0)) lp_law07_divisions rfl (args := [VL nl ex sz rs, .func X.f [] X.cap]) (m := m0) (by
    have h1' : 0 < rs.length := h1
    generalize hVV : VL nl ex sz rs = VV at *
    rw [← hVV]
    rw [← hVV] at h
    simp (maxSteps := 1000000) only [law07_divisions, law07_divisions.B, beqT, beqF, exF_seq, exF_region, exF_block, exF_cond, exF_ret, exF_exit, exF_skip, runL, wantL, stepL, evL, evC, LEnv.at, putL, loadFine, loadL, cellsAt, Trk.putNew, Trk.up, Trk.touch, Trk.gives, Trk.calm, Trk.hit, opdsOf, Trk.fresh, LEnv.keep, LEnv.ofFrom, List.map_cons, List.map_nil, nbeq, nble, nblt, ofAV, ofAVs, bin_add, bin_sub, bin_mul, bin_eql, bin_neq, bin_lss, bin_leq, bin_gtr, bin_geq, natL_nat, natL_zero, natL_one, natL_two, Nat.zero_mul, List.any_cons, List.any_nil, Bool.or_false, Bool.false_or, Bool.true_or, Bool.or_true, Bool.and_true, Bool.true_and, Bool.and_false, Bool.false_and, Bool.not_true, Bool.not_false, Nat.reduceBEq, Nat.reduceEqDiff, decide_true, decide_false, cond_true, cond_false, List.filter_nil, List.filter_cons, Nat.reduceAdd, Nat.reduceLeDiff, reduceCtorEq, List.length_nil, List.length_cons, Nat.mul_one, if_true, if_false, Bool.false_eq_true, eq_self, and_true, true_and, retL, resultsL, resAllL, resOfL, List.append_nil, List.nil_append, List.cons_append, true_or, or_true, false_or, or_false, false_and, and_false, not_true_eq_false, not_false_eq_true, ne_eq, unL, trim_nil, views_pures, LV.pures, LV.pure, freeze, Nat.reduceDiv, Int.reduceEq, Int.reduceLT, Int.reduceLE, Int.natCast_zero, LV.cells, allocL, List.getElem?_cons_zero, List.getElem?_cons_succ, storeL, spliceL, List.take_zero, List.take_succ_cons, List.drop_zero, List.drop_succ_cons, List.drop_nil, List.take_nil, Nat.le_refl, Nat.reduceMul, List.set_cons_zero, List.set_cons_succ, LV.scalar, List.all_cons, List.all_nil, Nat.lt_add_one, Nat.zero_lt_one, Nat.reduceLT, Nat.lt_irrefl, fillL, List.length_append, foldIntL, kind_beq, pures_int, solids_int, plains_int, unders_int, scalars_int, h1', hr0, hl0, hrm, hrm2, hz, hzz, hm0, hb, Nat.mul_one, h])
  exact hc
end
theorem trim_get {k i : Nat} (h : i < k) (vs : List LV) (m : LMem) : (trim k vs m)[i]? = m[i]? := by
  unfold trim
  cases (LV.unders k vs && belowM k (m.take k))
  · rfl
  · rw [cond_true, List.getElem?_take, if_pos h]
end Go.Am.Share


