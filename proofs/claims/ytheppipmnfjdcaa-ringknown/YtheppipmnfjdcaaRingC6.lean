/-
  What functions of chapter 04 compute, 6: the table, told as lists; the fewest.
-/
import Derived.Test.YtheppipmnfjdcaaRingP1
set_option linter.unusedVariables false
set_option linter.unusedSimpArgs false
set_option maxRecDepth 10000
namespace Go.Am.Ring
open Go.Am.G

theorem pures_app : ∀ (a b : List LV), LV.pures (a ++ b) = (LV.pures a && LV.pures b)
  | [], b => by simp [LV.pures]
  | x :: a, b => by simp [LV.pures, pures_app a b, Bool.and_assoc]
theorem viewC_ints (k : Nat) (m : LMem) : ∀ (l : List Int) (r r' : List LV) (ids : List Nat), viewC (k + 2) m r = some (r', ids) → viewC (k + 2 + l.length) m (l.map (LV.int .i64) ++ r) = some (l.map (LV.int .i64) ++ r', ids)
  | [], r, r', ids, h => h
  | x :: l, r, r', ids, h => by
    have ih := viewC_ints k m l r r' ids h
    have e : view (k + 2 + l.length) m (.int .i64 x) = some (.int .i64 x, []) := by
      obtain ⟨j, hj⟩ : ∃ j, k + 2 + l.length = j + 1 := ⟨k + 1 + l.length, by omega⟩
      rw [hj]; simp only [view]
    rw [List.length_cons, show k + 2 + (l.length + 1) = k + 2 + l.length + 1 by omega, List.map_cons, List.cons_append, viewC.eq_def]
    simp only [e, ih]
    rfl
/-- The table told as lists. -/
def tabV (n : Nat) (P : List (Nat × Nat)) (may : Nat → Nat → Bool) (g : Nat) (first cap : List LV) : List LV :=
  cellsT n (ltL P) (.func g first cap) (.lst false true 1 (2 ^ n) ((Ft may P n (2 ^ n) 0).map (LV.int .i64))) (.lst false true 1 (2 ^ n) ((Wt may P n (2 ^ n) 0).map (LV.int .i64)))
theorem tab_view (n : Nat) (P : List (Nat × Nat)) (may : Nat → Nat → Bool) (g : Nat) (first cap : List LV) (hp : LV.pures first = true ∧ LV.pures cap = true) (S : Nat) (hS : S = 2 ^ n) :
    view 100 (TM (Ft may P n S 0) (Wt may P n S 0) n P (.func g first cap) S) (.ptr 2 0 40) = some (.elt (tabV n P may g first cap) 0, [2, 0, 1]) := by
  have hlen := cT_len n (ltL P) (.func g first cap) (.sl 0 0 S S 0 1 S) (.sl 1 0 S S 0 1 S) (ltL_len P)
  have hF := Ft_len may P n S 0
  have hW := Wt_len may P n S 0
  have hv : ∀ (i : Nat) (L : List Int) (k : Nat) (m : LMem), m[i]? = some ⟨L.map (LV.int .i64), true⟩ → L.length = S → view (k + 3) m (.sl i 0 S S 0 1 S) = some (.lst false true 1 S (L.map (LV.int .i64)), [i]) := by
    intro i L k m h hL
    have h2 : ((L.map (LV.int .i64)).drop 0).take (S * 1) = L.map (LV.int .i64) := by rw [List.drop_zero, List.take_of_length_le (by simp [hL])]
    simp only [view, h, h2, viewL_pures _ _ _ (pures_int .i64 L)]
    simp [nble, hL]
  unfold TM
  generalize hM : ([⟨(Ft may P n S 0).map (LV.int .i64), true⟩, ⟨(Wt may P n S 0).map (LV.int .i64), true⟩, ⟨cellsT n (ltL P) (.func g first cap) (.sl 0 0 S S 0 1 S) (.sl 1 0 S S 0 1 S), true⟩] : LMem) = M
  have m0 : M[0]? = some ⟨(Ft may P n S 0).map (LV.int .i64), true⟩ := by rw [← hM]; rfl
  have m1 : M[1]? = some ⟨(Wt may P n S 0).map (LV.int .i64), true⟩ := by rw [← hM]; rfl
  have m2 : M[2]? = some ⟨cellsT n (ltL P) (.func g first cap) (.sl 0 0 S S 0 1 S) (.sl 1 0 S S 0 1 S), true⟩ := by rw [← hM]; rfl
  have t : viewC 61 M [.func g first cap, .sl 0 0 S S 0 1 S, .sl 1 0 S S 0 1 S] = some ([.func g first cap, .lst false true 1 S ((Ft may P n S 0).map (LV.int .i64)), .lst false true 1 S ((Wt may P n S 0).map (LV.int .i64))], [0, 1]) := by
    have e1 : view 60 M (.func g first cap) = some (.func g first cap, []) := by
      simp only [view, viewL_pures _ _ _ hp.1, viewL_pures _ _ _ hp.2]; rfl
    rw [viewC.eq_def]
    simp only [e1]
    rw [viewC.eq_def]
    simp only [hv 0 _ 56 M m0 hF]
    rw [viewC.eq_def]
    simp only [hv 1 _ 55 M m1 hW]
    rw [viewC.eq_def]
    rfl
  have t2 := viewC_ints 59 M (ltL P) _ _ _ t
  rw [ltL_len] at t2
  have t3 : viewC 98 M (cellsT n (ltL P) (.func g first cap) (.sl 0 0 S S 0 1 S) (.sl 1 0 S S 0 1 S)) = some (cellsT n (ltL P) (.func g first cap) (.lst false true 1 S ((Ft may P n S 0).map (LV.int .i64))) (.lst false true 1 S ((Wt may P n S 0).map (LV.int .i64))), [0, 1]) := by
    unfold cellsT
    rw [viewC.eq_def]
    simp only [view]
    rw [show viewC 97 M = viewC (59 + 2 + 36) M from rfl, t2]
    rfl
  have hpu : LV.pures (cellsT n (ltL P) (.func g first cap) (.sl 0 0 S S 0 1 S) (.sl 1 0 S S 0 1 S)) = false := by
    simp [cellsT, LV.pures, LV.pure, pures_app]
  rw [view.eq_def]
  simp only [m2, hlen, nbeq, decide_true, cond_true]
  rw [viewL.eq_def]
  subst hS
  cases hc : cellsT n (ltL P) (.func g first cap) (.sl 0 0 (2 ^ n) (2 ^ n) 0 1 (2 ^ n)) (.sl 1 0 (2 ^ n) (2 ^ n) 0 1 (2 ^ n)) with
  | nil => simp [cellsT] at hc
  | cons a r =>
    rw [← hc]
    simp only [hpu, cond_false]
    rw [t3]
    rfl
theorem filled_c (n : Nat) (P : List (Nat × Nat)) (G : Good n P) (nl ex : Bool) (sz : Nat) (g : Nat) (first cap : List LV) (hp : LV.pures first = true ∧ LV.pures cap = true) (hu : LV.under 3 (.func g first cap) = true) (may : Nat → Nat → Bool)
    (hmay : ∀ (f d : Nat) m, f < n → d < 2 ^ n → clF LP g (first ++ ([.int .i64 (f : Int), .int .i64 (d : Int)] ++ cap)) m = some (.P, .bool (may f d), m)) (m : LMem) :
    clF LP n_ring_filled [.int .i64 (n : Int), FN nl ex sz P, .func g first cap] m = some (.P, .elt (tabV n P may g first cap) 0, m) := by
  have hn : 1 ≤ n ∧ n ≤ 6 := ⟨G.pos, G.le6⟩
  obtain ⟨A, hA⟩ : ∃ A, 2 ^ n = A + 1 := ⟨2 ^ n - 1, by have := Nat.two_pow_pos n; omega⟩
  have hA64 : A + 1 ≤ 64 := by
    have : 2 ^ n ≤ 2 ^ 6 := Nat.pow_le_pow_right (by omega) hn.2
    omega
  have h0 := fill0_loop n g first cap hu (List.replicate (A + 1) 0) (List.replicate (A + 1) 0) (A + 1) (A : Int) nl ex sz P G P.length 0 (by omega)
  have h2 := fill2_loop n hn P G.le12 (fun p hp => (G.lt p hp).2) g first cap may hmay A hA A (Nat.le_refl _)
  rw [Ft_top may P n A hA, Wt_top may P n A hA] at h2
  have hsl := sshl (i := n) (by omega)
  rw [hA] at hsl
  have hw1 : IntKind.i64.wrap (((A + 1 : Nat) : Int) - 1) = (A : Int) := by rw [wrap_in (by omega)]; omega
  have hw2 : IntKind.i64.wrap ((A : Int) + 1) = ((A + 1 : Nat) : Int) := wrap_succ (by omega)
  have hw3 : IntKind.i64.wrap ((A : Int) - 1) = (A : Int) - 1 := wrap_in (by omega)
  have hb1 : (A + 1) * 8 ≤ roomMost := by simp only [roomMost]; omega
  have hb2 : A + 1 ≤ roomMost := by simp only [roomMost]; omega
  have hz := zeros_int .i64 (A + 1)
  have hst := set_int .i64 (List.replicate (A + 1) (0 : Int)) A 1 (by simp)
  have hml : ((List.replicate (A + 1) (0 : Int)).map (LV.int .i64)).length = A + 1 := by simp
  have h39 := cT_39 n (ltL P) (.func g first cap) (.sl 0 0 (A + 1) (A + 1) 0 1 (A + 1)) (.sl 1 0 (A + 1) (A + 1) 0 1 (A + 1)) (ltL_len P)
  have hlen := cT_len n (ltL P) (.func g first cap) (.sl 0 0 (A + 1) (A + 1) 0 1 (A + 1)) (.sl 1 0 (A + 1) (A + 1) 0 1 (A + 1)) (ltL_len P)
  have hbox : cellsT n (ltL []) (.func g first cap) (.sl 0 0 (A + 1) (A + 1) 0 1 (A + 1)) (.sl 1 0 (A + 1) (A + 1) 0 1 (A + 1)) = [.int .i64 (n : Int), .int .i64 0, .int .i64 0, .int .i64 0, .int .i64 0, .int .i64 0, .int .i64 0, .int .i64 0, .int .i64 0, .int .i64 0, .int .i64 0, .int .i64 0, .int .i64 0, .int .i64 0, .int .i64 0, .int .i64 0, .int .i64 0, .int .i64 0, .int .i64 0, .int .i64 0, .int .i64 0, .int .i64 0, .int .i64 0, .int .i64 0, .int .i64 0, .int .i64 0, .int .i64 0, .int .i64 0, .int .i64 0, .int .i64 0, .int .i64 0, .int .i64 0, .int .i64 0, .int .i64 0, .int .i64 0, .int .i64 0, .int .i64 0, .func g first cap, .sl 0 0 (A + 1) (A + 1) 0 1 (A + 1), .sl 1 0 (A + 1) (A + 1) 0 1 (A + 1)] := rfl
  refine call_Pv lp_ring_filled rfl (by simp [LV.pures, LV.pure, hp]) (m1 := TM (Ft may P n (A + 1) 0) (Wt may P n (A + 1) 0) n P (.func g first cap) (A + 1)) (v := .ptr 2 0 40) (ids := [2, 0, 1]) ?_ (tab_view n P may g first cap hp (A + 1) hA.symm) m
  simp only [TM, List.take_zero, Int.natCast_zero, hbox] at h0
  simp only [TM] at h2
  simp only [FN_eq] at h0 ⊢
  simp only [ring_filled, ring_filled.B, exF_seq, exF_region, exF_block, exF_ret, runL, wantL, stepL, evL, evC, LEnv.at, putL, loadFine, loadL, cellsAt, Trk.putNew, Trk.up, Trk.touch, Trk.gives, Trk.calm, Trk.hit, opdsOf, Trk.fresh, LEnv.keep, LEnv.ofFrom, List.map_cons, List.map_nil, nbeq, nble, nblt, ofAV, ofAVs, lenL, bin_add, bin_sub, natL_nat, List.any_cons, List.any_nil, Bool.or_false, Bool.or_true, Bool.and_true, Bool.false_and, Bool.not_true, Bool.not_false, Nat.reduceEqDiff, decide_true, decide_false, cond_true, cond_false, List.filter_nil, Nat.reduceAdd, Nat.reduceLeDiff, reduceCtorEq, List.length_nil, List.length_cons, Nat.mul_one, eq_self, retL, resultsL, resAllL, resOfL, List.append_nil, List.nil_append, List.cons_append, LV.cells, allocL, List.getElem?_cons_zero, List.getElem?_cons_succ, storeL, spliceL, List.take_zero, List.take_succ_cons, List.drop_zero, List.drop_succ_cons, List.drop_nil, Nat.le_refl, List.set_cons_zero, List.set_cons_succ, LV.scalar, List.all_cons, List.all_nil, fillL, hsl, hw1, hw2, hw3, hb1, hb2, hz, h0, h39, hlen, hml, hst, show A < A + 1 by omega, Nat.zero_add, h2]
  rfl

/-! ### The fewest -/
theorem any_c (f d : Int) (m : LMem) : clF LP n_ring_anyForm [.int .i64 f, .int .i64 d] m = some (.P, .bool true, m) := by
  refine call_P lp_ring_anyForm rfl rfl (m1 := []) ?_ rfl m
  simp only [ring_anyForm, ring_anyForm.B, exF_seq, exF_region, exF_ret, runL, wantL, stepL, evL, evC, LEnv.at, putL, loadFine, LEnv.keep, LEnv.ofFrom, List.map_cons, List.map_nil, nbeq, decide_true, cond_true, Nat.reduceAdd, eq_self, retL, resultsL, resAllL, resOfL]
abbrev tabA (n : Nat) (P : List (Nat × Nat)) : List LV := tabV n P anyM n_ring_anyForm [] []
theorem filledA_c (n : Nat) (P : List (Nat × Nat)) (G : Good n P) (nl ex : Bool) (sz : Nat) (m : LMem) :
    clF LP n_ring_filled [.int .i64 (n : Int), FN nl ex sz P, .func n_ring_anyForm [] []] m = some (.P, .elt (tabA n P) 0, m) :=
  filled_c n P G nl ex sz n_ring_anyForm [] [] ⟨rfl, rfl⟩ rfl anyM (fun f d m _ _ => any_c f d m) m
theorem tab_38 (n : Nat) (P : List (Nat × Nat)) (may : Nat → Nat → Bool) (g : Nat) (first cap : List LV) : (tabV n P may g first cap)[38]? = some (.lst false true 1 (2 ^ n) ((Ft may P n (2 ^ n) 0).map (LV.int .i64))) := cT_38 _ _ _ _ _ (ltL_len P)
theorem tab_39 (n : Nat) (P : List (Nat × Nat)) (may : Nat → Nat → Bool) (g : Nat) (first cap : List LV) : (tabV n P may g first cap)[39]? = some (.lst false true 1 (2 ^ n) ((Wt may P n (2 ^ n) 0).map (LV.int .i64))) := cT_39 _ _ _ _ _ (ltL_len P)
theorem tF_at (may : Nat → Nat → Bool) (P : List (Nat × Nat)) (n d : Nat) (h : d < 2 ^ n) : ((Ft may P n (2 ^ n) 0).map (LV.int .i64))[d]? = some (.int .i64 (((fwD may P n d).1 : Nat) : Int)) := by
  rw [List.getElem?_map, Ft_at _ _ _ _ _ _ h (Nat.zero_le _)]; rfl
theorem tW_at (may : Nat → Nat → Bool) (P : List (Nat × Nat)) (n d : Nat) (h : d < 2 ^ n) : ((Wt may P n (2 ^ n) 0).map (LV.int .i64))[d]? = some (.int .i64 (((fwD may P n d).2 : Nat) : Int)) := by
  rw [List.getElem?_map, Wt_at _ _ _ _ _ _ h (Nat.zero_le _)]; rfl
theorem fewest_c (n : Nat) (P : List (Nat × Nat)) (G : Good n P) (nl ex : Bool) (sz : Nat) (m : LMem) :
    clF LP n_ring_Fewest [.int .i64 (n : Int), FN nl ex sz P] m = some (.P, .tup [.int .i64 (((fwD anyM P n 0).1 : Nat) : Int), .int .i64 0], m) := by
  have hc := fun m => check_c nl ex sz (n : Int) (P.map castP) (by have := G.le12; simp; omega) m
  rw [chkF_of G] at hc
  have hf := fun m => filledA_c n P G nl ex sz m
  have h38 := tab_38 n P anyM n_ring_anyForm [] []
  have hat := tF_at anyM P n 0 (Nat.two_pow_pos n)
  have hpos := Nat.two_pow_pos n
  refine call_P lp_ring_Fewest rfl (by simp [LV.pures, LV.pure]) (m1 := []) ?_ rfl m
  simp only [ring_Fewest, ring_Fewest.B, exF_seq, exF_region, exF_cond, exF_ret, exF_skip, runL, wantL, stepL, evL, evC, LEnv.at, putL, loadFine, loadL, cellsAt, Trk.putNew, Trk.up, Trk.touch, Trk.gives, Trk.calm, opdsOf, Trk.fresh, LEnv.keep, LEnv.ofFrom, List.map_cons, List.map_nil, nbeq, nble, nblt, ofAVs, bin_neq, natL_zero, List.any_cons, List.any_nil, Bool.or_false, Bool.true_or, Bool.and_true, Bool.true_and, Bool.not_true, Bool.not_false, Nat.reduceEqDiff, decide_true, decide_false, cond_true, cond_false, List.filter_nil, List.filter_cons, Nat.reduceAdd, Nat.reduceLeDiff, reduceCtorEq, List.length_nil, Nat.mul_one, if_true, eq_self, retL, resultsL, resAllL, resOfL, List.append_nil, List.nil_append, not_true_eq_false, ne_eq, List.drop_zero, hc, hf, Nat.zero_add, h38, hpos, hat]
theorem count_c (n : Nat) (P : List (Nat × Nat)) (G : Good n P) (nl ex : Bool) (sz : Nat) (m : LMem) :
    clF LP n_ring_Count [.int .i64 (n : Int), FN nl ex sz P] m = some (.P, .tup [.int .i64 (((fwD anyM P n 0).2 : Nat) : Int), .int .i64 0], m) := by
  have hc := fun m => check_c nl ex sz (n : Int) (P.map castP) (by have := G.le12; simp; omega) m
  rw [chkF_of G] at hc
  have hf := fun m => filledA_c n P G nl ex sz m
  have h38 := tab_39 n P anyM n_ring_anyForm [] []
  have hat := tW_at anyM P n 0 (Nat.two_pow_pos n)
  have hpos := Nat.two_pow_pos n
  refine call_P lp_ring_Count rfl (by simp [LV.pures, LV.pure]) (m1 := []) ?_ rfl m
  simp only [ring_Count, ring_Count.B, exF_seq, exF_region, exF_cond, exF_ret, exF_skip, runL, wantL, stepL, evL, evC, LEnv.at, putL, loadFine, loadL, cellsAt, Trk.putNew, Trk.up, Trk.touch, Trk.gives, Trk.calm, opdsOf, Trk.fresh, LEnv.keep, LEnv.ofFrom, List.map_cons, List.map_nil, nbeq, nble, nblt, ofAVs, bin_neq, natL_zero, List.any_cons, List.any_nil, Bool.or_false, Bool.true_or, Bool.and_true, Bool.true_and, Bool.not_true, Bool.not_false, Nat.reduceEqDiff, decide_true, decide_false, cond_true, cond_false, List.filter_nil, List.filter_cons, Nat.reduceAdd, Nat.reduceLeDiff, reduceCtorEq, List.length_nil, Nat.mul_one, if_true, eq_self, retL, resultsL, resAllL, resOfL, List.append_nil, List.nil_append, not_true_eq_false, ne_eq, List.drop_zero, hc, hf, Nat.zero_add, h38, hpos, hat]
end Go.Am.Ring

