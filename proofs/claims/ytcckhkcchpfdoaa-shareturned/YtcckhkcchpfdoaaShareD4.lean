import Derived.Test.YtcckhkcchpfdoaaShareD1
/-
  What functions of chapter 07 compute, outright 4: values by numbers as an argument; calls that are shown a list; the law 'ShareJudged'.
-/
set_option linter.unusedVariables false
set_option linter.unusedSimpArgs false
set_option maxRecDepth 10000
set_option maxHeartbeats 400000
namespace Go.Am.Share
open Go.Am.G

/-! ### Values by numbers -/
def rowR (l : List Int) : Row := ⟨decide (l = []), decide (l = []), bif decide (l = []) then 0 else 1, l⟩
def rsM (w : List Nat) (M n r : Nat) : List Row := (rowsM w M n r).map rowR
theorem rsM_len (w : List Nat) (M n r : Nat) : (rsM w M n r).length = r := by simp [rsM, rowsM_len]
theorem rsM_vals (w : List Nat) (M n r : Nat) : vals (rsM w M n r) = rowsM w M n r := by simp [vals, rsM, rowR, Function.comp_def]
theorem rsM_lv (w : List Nat) (M n r : Nat) : (rsM w M n r).map Row.lv = (rowsM w M n r).map RL := by simp [rsM, rowR]
theorem rsM_at (w : List Nat) (M n r i : Nat) (h : i < (rsM w M n r).length) : (rsM w M n r)[i] = rowR (rowL (cut6 w i) M n) := by simp [rsM, rowsM]
theorem rowL_20 (q : List Nat) (M n : Nat) (hM : M ≤ 20) : Ok20 (rowL q M n) := fun x hx => by
  obtain ⟨j, _, rfl⟩ := List.mem_map.1 hx
  have := Nat.mod_lt (q.getD j 0) (show 0 < M + 1 by omega)
  omega
theorem made_c (w : List Nat) (hw : w.length = 26) (hb : ∀ x ∈ w, x < 256) (F T M : Nat) (hF : 1 ≤ F ∧ F ≤ 4) (hT : T ≤ 6) (hM : M ≤ 20) :
    ∃ (b c : Bool) (z : Nat), ∀ m, clF LP n_law07_Heap_made [.agg (bys w), .int .i64 (F : Int), .int .i64 (T : Int), .int .i64 (M : Int)] m = some (.P, VL b c z (rsM w M (w.getD 1 0 % (T + 1)) (1 + w.getD 0 0 % F)), m) := by
  have h0 := getD_lt hb 0
  have h1 := getD_lt hb 1
  have hr := Nat.mod_lt (w.getD 0 0) (show 0 < F by omega)
  have hn := Nat.mod_lt (w.getD 1 0) (show 0 < T + 1 by omega)
  have a0 := bys_at (show 0 < w.length by omega)
  have a1 := bys_at (show 1 < w.length by omega)
  have hbl : (bys w).length = 26 := by simp [hw]
  have w0 : IntKind.i64.wrap ((w.getD 0 0 : Nat) : Int) = ((w.getD 0 0 : Nat) : Int) := wrap_in (by omega)
  have w1 : IntKind.i64.wrap ((w.getD 1 0 : Nat) : Int) = ((w.getD 1 0 : Nat) : Int) := wrap_in (by omega)
  have wT : IntKind.i64.wrap ((T : Int) + 1) = ((T + 1 : Nat) : Int) := by rw [wrap_in (by omega)]; simp
  have r0 := rem_nat (w.getD 0 0) F (by omega)
  have r1 := rem_nat (w.getD 1 0) (T + 1) (by omega)
  have wr : IntKind.i64.wrap (1 + ((w.getD 0 0 % F : Nat) : Int)) = ((1 + w.getD 0 0 % F : Nat) : Int) := by rw [wrap_in (by omega)]; simp
  obtain ⟨m', vo, e, H⟩ := made_outer w hw hb M hM (w.getD 1 0 % (T + 1)) (by omega) (1 + w.getD 0 0 % F) (by omega) (1 + w.getD 0 0 % F) 0 [⟨bys w, true⟩] (.lst true true 0 0 []) (by omega) rfl (Lst.nil _ 1) (fun h => h)
  obtain ⟨b, c, z, ids, _, _, _, hv⟩ := H.view (rl_pures _) (by omega)
  refine ⟨b, c, z, fun m => ?_⟩
  have hle4 : 1 + w.getD 0 0 % F ≤ 4 := by omega
  have hpure : LV.pures [LV.agg (bys w), .int .i64 (F : Int), .int .i64 (T : Int), .int .i64 (M : Int)] = true := by simp only [LV.pures, LV.pure, pures_int, Bool.and_true]
  have hview : view 40 m' vo = some (VL b c z (rsM w M (w.getD 1 0 % (T + 1)) (1 + w.getD 0 0 % F)), ids) := by
    have e5 : VL b c z (rsM w M (w.getD 1 0 % (T + 1)) (1 + w.getD 0 0 % F)) = .lst b c z (1 + w.getD 0 0 % F) ((rowsM w M (w.getD 1 0 % (T + 1)) (1 + w.getD 0 0 % F)).map RL) := by
      show LV.lst b c z (rsM w M (w.getD 1 0 % (T + 1)) (1 + w.getD 0 0 % F)).length ((rsM w M (w.getD 1 0 % (T + 1)) (1 + w.getD 0 0 % F)).map Row.lv) = _
      rw [rsM_lv, rsM_len]
    rw [hv 37, e5]
  refine call_Pv lp_law07_Heap_made rfl hpure ?_ hview m
  simp only [Int.natCast_zero] at e
  generalize 1 + w.getD 0 0 % F = r at *
  generalize w.getD 1 0 % (T + 1) = n at *
  generalize w.getD 0 0 % F = rr at *
  generalize w.getD 0 0 = x0 at *
  generalize w.getD 1 0 = x1 at *
  generalize bys w = W at *
  simp only [law07_Heap_made, law07_Heap_made.B, sliceArrL, optNatL, Option.map_none, Option.map_some, nble, Nat.zero_le, Nat.add_zero, Nat.sub_zero, beqT, beqF, exF_seq, exF_region, exF_block, exF_cond, exF_ret, exF_exit, exF_skip, runL, wantL, stepL, evL, evC, LEnv.at, putL, loadFine, loadL, cellsAt, Trk.putNew, Trk.up, Trk.touch, Trk.gives, Trk.calm, Trk.hit, opdsOf, Trk.fresh, LEnv.keep, LEnv.ofFrom, List.map_cons, List.map_nil, nbeq, nble, nblt, ofAV, ofAVs, lenL, bin_add, bin_sub, bin_mul, bin_eql, bin_neq, bin_lss, bin_leq, bin_gtr, bin_geq, natL_nat, natL_zero, natL_one, natL_two, Nat.zero_mul, List.any_cons, List.any_nil, Bool.or_false, Bool.false_or, Bool.true_or, Bool.or_true, Bool.and_true, Bool.true_and, Bool.and_false, Bool.false_and, Bool.not_true, Bool.not_false, Nat.reduceBEq, Nat.reduceEqDiff, decide_true, decide_false, cond_true, cond_false, List.filter_nil, List.filter_cons, Nat.reduceAdd, Nat.reduceLeDiff, reduceCtorEq, List.length_nil, List.length_cons, Nat.mul_one, if_true, if_false, Bool.false_eq_true, eq_self, and_true, true_and, retL, resultsL, resAllL, resOfL, List.append_nil, List.nil_append, List.cons_append, true_or, or_true, false_or, or_false, false_and, and_false, not_true_eq_false, not_false_eq_true, ne_eq, unL, trim_nil, views_pures, LV.pures, LV.pure, freeze, Nat.reduceDiv, Int.reduceEq, Int.reduceLT, Int.reduceLE, Int.natCast_zero, LV.cells, allocL, List.getElem?_cons_zero, List.getElem?_cons_succ, storeL, spliceL, List.take_zero, List.take_succ_cons, List.drop_zero, List.drop_succ_cons, List.drop_nil, List.take_nil, Nat.le_refl, Nat.reduceMul, List.set_cons_zero, List.set_cons_succ, LV.scalar, List.all_cons, List.all_nil, Nat.lt_add_one, Nat.zero_lt_one, Nat.reduceLT, Nat.lt_irrefl, fillL, List.length_append, foldIntL, kind_beq, pures_int, solids_int, plains_int, unders_int, scalars_int, hbl, a0, a1, w0, w1, wT, r0, r1, wr, hle4, e]

/-! ### A list that calls are shown -/
theorem call_sh {C : LProg} {f : Nat} {lf : LFunc} (hC : C f = some lf) (hm : lf.mode = .P) {args vs : List LV} {ids : List Nat} {m : LMem} (hv : views m args = some (vs, ids)) (hp : LV.pures vs = true) {v : LV} (hc : clF C f vs [] = some (.P, v, [])) : clF C f args m = some (.P, v, m) ∨ clF C f args m = some (.P, v, freeze ids m) := by
  rw [clF_eq, hC] at hc ⊢
  simp only [callMode, hm, views_pures [] vs hp, hv] at hc ⊢
  split at hc
  · rename_i v1 m1 hr
    split at hc
    · rename_i v2 ids1 hv2
      simp only [Option.some.injEq, Prod.mk.injEq] at hc
      obtain ⟨_, rfl, _⟩ := hc
      cases (ids.isEmpty || (v2.plain || newIds v1 m1 ids1))
      · exact .inr rfl
      · exact .inl rfl
    · cases hc
  · cases hc
theorem view_at {m : LMem} {b n : Nat} {l : List Int} {o : Bool} (hn : l.length = n) (h : m[b]? = some ⟨ints l, o⟩) (hne : l ≠ []) : ∀ k, view (k + 3) m (.sl b 0 n n 1 1 n) = some (IL false false 1 l, [b]) := fun k => by
  have := view_sl k m b 0 n n 1 l o h hn (by omega) n (Nat.le_refl _)
  rw [List.drop_zero, List.take_of_length_le (by omega)] at this
  rw [this]
  have : n ≠ 0 := fun c => hne (List.length_eq_zero_iff.1 (by omega))
  simp [nbeq, this]
def Hold (m : LMem) (v : LV) (l : List Int) : Prop :=
  (l = [] ∧ v = .lst true true 0 0 []) ∨ (l ≠ [] ∧ ∃ b o, v = .sl b 0 l.length l.length 1 1 l.length ∧ m[b]? = some ⟨ints l, o⟩)
theorem Hold.mono {m m' : LMem} {v : LV} {l : List Int} (H : Hold m v l) (h : ∀ i, isBlk v i → m'[i]? = m[i]?) : Hold m' v l := by
  rcases H with H | ⟨h1, b, o, h2, h3⟩
  · exact .inl H
  · exact .inr ⟨h1, b, o, h2, by rw [h b (by rw [h2]; rfl)]; exact h3⟩
theorem Hold.gv (P : LMem) (l : List Int) : Hold (P ++ GM l) (GV P.length l) l := by
  unfold GV GM
  by_cases h : l = []
  · rw [if_pos h, if_pos h]; exact .inl ⟨h, rfl⟩
  · rw [if_neg h, if_neg h]; exact .inr ⟨h, P.length, true, rfl, by simp⟩
/-- A list with other arguments that are values. -/
theorem views_in (m : LMem) (a v v' : LV) (ids : List Nat) (r : List LV) (hv : ∀ k, view (k + 3) m v = some (v', ids)) (ha : a.pure = true) (hr : LV.pures r = true) (hnp : v.pure = false) (hl : r.length ≤ 4) : views m (a :: v :: r) = some (a :: v' :: r, ids) := by
  have hva : ∀ k, view (k + 3) m a = some (a, []) := fun k => view_pure (k + 1) m a ha
  have hC : ∀ (r : List LV) k, LV.pures r = true → r.length + 4 ≤ k → viewC k m r = some (r, []) := by
    intro r
    induction r with
    | nil =>
      intro k _ hk
      obtain ⟨k, rfl⟩ : ∃ q, k = q + 1 := ⟨k - 1, by omega⟩
      rw [viewC.eq_def]
    | cons x r ih =>
      intro k hp hk
      obtain ⟨k, rfl⟩ : ∃ q, k = q + 4 := ⟨k - 4, by omega⟩
      simp only [LV.pures, Bool.and_eq_true] at hp
      simp only [List.length_cons] at hk
      rw [viewC.eq_def]
      simp only [view_pure (k + 1) m x hp.1, ih (k + 3) hp.2 (by omega)]
      rfl
  have hp : LV.pures (a :: v :: r) = false := by simp only [LV.pures, hnp, Bool.false_and, Bool.and_false]
  unfold views
  rw [viewL.eq_def]
  simp only [hp, cond_false]
  rw [viewC.eq_def]
  simp only [hva 35]
  rw [viewC.eq_def]
  simp only [hv 34]
  rw [hC r 37 hr (by omega)]
  simp
theorem Hold.call {m : LMem} {v : LV} {l : List Int} (H : Hold m v l) {f : Nat} {lf : LFunc} (hC : LP f = some lf) (hmd : lf.mode = .P) {a : LV} (ha : a.pure = true) {r : List LV} (hr : LV.pures r = true) (hlr : r.length ≤ 4) {x : LV} (hc : ∀ (b c : Bool) (z : Nat), (l = [] ∨ z = 1) → (b = true → l = []) → ∀ m, clF LP f (a :: IL b c z l :: r) m = some (.P, x, m)) :
    ∃ m', clF LP f (a :: v :: r) m = some (.P, x, m') ∧ Hold m' v l ∧ (∀ i, ¬ isBlk v i → m'[i]? = m[i]?) ∧ m'.length = m.length := by
  rcases H with ⟨h1, h2⟩ | ⟨h1, b, o, h2, h3⟩
  · subst h1
    subst h2
    exact ⟨m, hc true true 0 (.inl rfl) (fun _ => rfl) m, .inl ⟨rfl, rfl⟩, fun _ _ => rfl, rfl⟩
  · subst h2
    have hv := views_in m a _ _ _ r (view_at rfl h3 h1) ha hr (by simp [LV.pure]) hlr
    have hpv : LV.pures (a :: IL false false 1 l :: r) = true := by simp only [LV.pures, LV.pure, ha, hr, pures_int, Bool.and_true]
    rcases call_sh hC hmd hv hpv (hc false false 1 (.inr rfl) (fun h => by cases h) []) with h | h
    · exact ⟨m, h, .inr ⟨h1, b, o, rfl, h3⟩, fun _ _ => rfl, rfl⟩
    · refine ⟨_, h, .inr ⟨h1, b, false, rfl, ?_⟩, fun i hi => ?_, Go.Am.G.freeze_length _ _⟩
      · have hb := (List.getElem?_eq_some_iff.1 h3).1
        simp only [freeze, freeze1, h3]
        rw [List.getElem?_set_self hb]
      · exact Go.Am.G.freeze_get i [b] m (by simp; intro e; exact hi (by rw [e]; rfl))

end Go.Am.Share

/-
  What functions of chapter 07 compute, outright 7: worths of a list in memory; all divisions are gone through, one after the other.
-/
set_option linter.unusedVariables false
set_option linter.unusedSimpArgs false
set_option maxRecDepth 10000
set_option maxHeartbeats 400000
namespace Go.Am.Share
open Go.Am.G

/-- What was gone through so far. -/
structure Gone (N L : Nat) (h : List (List Int)) : Prop where
  few : h.length < 5000
  all : ∀ x ∈ h, x.length = L ∧ ∀ y ∈ x, 0 ≤ y ∧ y < (N : Int)
/-- A visitor of lists that lie in memory: what the memory is, after so many lists. -/
structure DVis (N L : Nat) where
  mem : List (List Int) → List Int → LMem
  f : Nat
  cap : List LV
  b : Nat
  own : List (List Int) → Bool
  hown : ∀ h, 0 < L → own h = true
  hb : ∀ h o, o.length = L → (mem h o)[b]? = some ⟨ints o, own h⟩
  hset : ∀ h o k x, o.length = L → k < L → (mem h o).set b ⟨ints (o.set k x), true⟩ = mem h (o.set k x)
  hvis : ∀ h o, Gone N L h → o.length = L → (∀ x ∈ o, 0 ≤ x ∧ x < (N : Int)) → clF LP f (SLo b L :: cap) (mem h o) = some (.W, .tup [], mem (h ++ [o]) o)
section
variable {L : Nat} (rs : List Row) (X : DVis rs.length L) (nl ex : Bool) (sz : Nat) (hN : rs.length ≤ 4) (hL : L ≤ 6)
include hN hL
end
end Go.Am.Share

/-
  What functions of chapter 07 compute, outright 5: the law 'ShareJudged'.
-/
set_option linter.unusedVariables false
set_option linter.unusedSimpArgs false
set_option maxRecDepth 10000
set_option maxHeartbeats 400000
namespace Go.Am.Share
open Go.Am.G

theorem rsM_ok (w : List Nat) (M n r : Nat) (hM : M ≤ 20) (hn : n ≤ 6) (h1 : 1 ≤ r) (h4 : r ≤ 4) (o : List Int) (hol : o.length = n) (ho : ∀ x ∈ o, -1 ≤ x ∧ x < (r : Int)) : LOk (rsM w M n r) o where
  pos := by rw [rsM_len]; omega
  le4 := by rw [rsM_len]; omega
  len i h := by rw [rsM_at, rowR]; show o.length = (rowL _ M n).length; rw [rowL_len, hol]
  ok i h := by rw [rsM_at]; exact rowL_20 _ _ _ hM
  le6 := by omega
  own x hx := by rw [rsM_len]; exact ho x hx
theorem chkM (w : List Nat) (M n r : Nat) (hM : M ≤ 20) (hn : n ≤ 6) (h1 : 1 ≤ r) (h4 : r ≤ 4) : chkV (rowsM w M n r) = 0 := by
  have hl := rowsM_len w M n r
  have h0 : ((rowsM w M n r).getD 0 []).length = n := by
    have e : (rowsM w M n r).getD 0 [] = rowL (cut6 w 0) M n := by
      rw [List.getD_eq_getElem?_getD, List.getElem?_eq_getElem (by omega)]
      simp [rowsM]
    rw [e, rowL_len]
  unfold chkV
  rw [if_neg (by omega), if_neg (by rw [h0]; omega), h0]
  have key : ∀ vs : List (List Int), (∀ v ∈ vs, v.length = n ∧ Ok20 v) → rowsChk n vs = 0 := by
    intro vs
    induction vs with
    | nil => intro _; rfl
    | cons v vs ih =>
      intro h
      obtain ⟨a, b⟩ := h v (by simp)
      rw [rowsChk, if_neg (by omega), if_neg, ih fun x hx => h x (by simp [hx])]
      rw [Bool.not_eq_true, List.any_eq_false]
      intro x hx
      have := b x hx
      simp [inB]; omega
  refine key _ fun v hv => ?_
  obtain ⟨i, _, rfl⟩ := List.mem_map.1 hv
  exact ⟨rowL_len _ _ _, rowL_20 _ _ _ hM⟩
theorem divM (w : List Nat) (M n r : Nat) (hM : M ≤ 20) (hn : n ≤ 6) (h1 : 1 ≤ r) (h4 : r ≤ 4) (o : List Int) (hol : o.length = n) (ho : ∀ x ∈ o, 0 ≤ x ∧ x < (r : Int)) : divE (rowsM w M n r) o = 0 := by
  have hl := rowsM_len w M n r
  have h0 : ((rowsM w M n r).getD 0 []).length = n := by
    have e : (rowsM w M n r).getD 0 [] = rowL (cut6 w 0) M n := by
      rw [List.getD_eq_getElem?_getD, List.getElem?_eq_getElem (by omega)]
      simp [rowsM]
    rw [e, rowL_len]
  unfold divE
  rw [chkM w M n r hM hn h1 h4, if_neg (by simp), if_neg (by omega), if_neg]
  rw [Bool.not_eq_true, List.any_eq_false]
  intro x hx
  have := ho x hx
  rw [hl]
  simp [inB]; omega
/-! ### Two lists in memory -/
theorem Hold.lt {m : LMem} {v : LV} {l : List Int} (H : Hold m v l) (i : Nat) (h : isBlk v i) : i < m.length := by
  rcases H with ⟨_, h2⟩ | ⟨_, b, o, h2, h3⟩
  · rw [h2] at h; cases h
  · rw [h2] at h; cases h; exact (List.getElem?_eq_some_iff.1 h3).1
section
variable (b0 c0 : Bool) (z0 : Nat) {rs : List Row} {o : List Int} (D : LOk rs o) (hd : divE (vals rs) o = 0)
include D hd
end
end Go.Am.Share

/-
  What functions of chapter 07 compute, outright 8: the law 'ShareFree': one division.
-/
set_option linter.unusedVariables false
set_option linter.unusedSimpArgs false
set_option maxRecDepth 10000
set_option maxHeartbeats 400000
namespace Go.Am.Share
open Go.Am.G

/-! ### The loops of one division -/
section
variable {rs : List Row} {o : List Int} (D : LOk rs o)
include D
end
end Go.Am.Share


