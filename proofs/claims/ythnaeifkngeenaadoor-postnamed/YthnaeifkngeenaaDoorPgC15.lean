import Derived.Test.YthnaeifkngeenaaDoorPgC14
import Derived.Test.YthnaeifkngeenaaDoorPgC12
import Derived.Test.YthnaeifkngeenaaDoorPgL
import Derived.Test.YthnaeifkngeenaaDoorLm11
import Derived.KernelRfl
/-
  What functions of chapter 12 compute, 15: how many lists of posts there are, and how many of the smallest.
-/
set_option linter.unusedVariables false
set_option linter.unusedSimpArgs false
set_option maxRecDepth 10000
namespace Go.Am.Post
open SR Go.Am.G

def fTab (s : List Int) : List T6 := fFold s (s.length - 1) (fFill s.length 0 (List.replicate s.length z6))
def fRate (s : List Int) : T6 := (fTab s).getD 0 z6
theorem fFill_len (n : Nat) : ∀ (k : Nat) (T : List T6), (fFill n k T).length = T.length := by
  induction n with
  | zero => intro k T; rfl
  | succ n ih => intro k T; rw [fFill, ih]; simp
theorem fFold_len (s : List Int) (n : Nat) : ∀ (T : List T6), (fFold s n T).length = T.length := by
  induction n with
  | zero => intro T; rfl
  | succ n ih => intro T; rw [fFold, ih]; simp
theorem frate_c (nl ex : Bool) (sz : Nat) {s : List Int} (K : OkS s) (m : LMem) :
    clF LP n_post_rating_post_few_rate [.elt fCells 0, IL nl ex sz s] m = some (.P, .agg (t6 (fRate s)), m) := by
  have h10 := K.le
  have hpos := K.pos
  have f1 := frate_fill nl ex sz s s.length h10 s.length 0 (List.replicate s.length z6) (by omega) (by simp)
  have f2 := frate_fold nl ex sz K s.length rfl (s.length - 1) 0 (fFill s.length 0 (List.replicate s.length z6)) (by omega) (by rw [fFill_len]; simp)
  have hz : zerosL [.int .i64 0, .int .i64 0, .int .i64 0, .int .i64 0, .int .i64 0, .int .i64 0] (s.length * 6) = sx (List.replicate s.length z6) := flat_zeros t6 6 _ rfl (by omega) z6 rfl s.length
  simp only [Int.natCast_zero] at f1 f2
  have hl : (fTab s).length = s.length := by rw [fTab, fFold_len, fFill_len]; simp
  change exF LP post_rating_post_few_rate.L1 _ _ = some (.exit 2, _, [_, ⟨sx (fTab s), true⟩]) at f2
  have h0 : 0 < (fTab s).length := by omega
  have sg := sx_seg (fTab s) 0 h0
  have hg : fRate s = (fTab s)[0] := by simp [fRate, List.getD_eq_getElem?_getD, h0]
  rw [hg]
  have lf : (sx (fTab s)).length = s.length * 6 := by rw [sx_len, hl]
  simp only [Nat.zero_mul, List.drop_zero] at sg
  generalize fTab s = T at *
  have hw1 : IntKind.i64.wrap ((s.length : Int) - 1) = (s.length : Int) - 1 := wrap_in (by omega)
  have r1 : s.length * 48 ≤ roomMost := by unfold roomMost; omega
  have r2 : s.length ≤ roomMost := by unfold roomMost; omega
  refine call_P lp_post_rating_post_few_rate rfl (by simp [LV.pures, LV.pure]) (m1 := [⟨t6 T[0], true⟩, ⟨sx T, true⟩]) ?_ (by simp [LV.pures, LV.pure, t6]) m
  simp only [post_rating_post_few_rate, post_rating_post_few_rate.B, beqT, beqF, exF_seq, exF_region, exF_block, exF_cond, exF_ret, exF_exit, exF_skip, runL, wantL, stepL, evL, evC, LEnv.at, putL, loadFine, loadL, cellsAt, Trk.putNew, Trk.up, Trk.touch, Trk.gives, Trk.calm, Trk.hit, opdsOf, Trk.fresh, LEnv.keep, LEnv.ofFrom, List.map_cons, List.map_nil, nbeq, nble, nblt, ofAV, ofAVs, lenL, bin_add, bin_sub, bin_mul, bin_eql, bin_neq, bin_lss, bin_leq, bin_gtr, bin_geq, natL_nat, natL_zero, natL_one, natL_two, Nat.zero_mul, List.any_cons, List.any_nil, Bool.or_false, Bool.false_or, Bool.true_or, Bool.or_true, Bool.and_true, Bool.true_and, Bool.and_false, Bool.false_and, Bool.not_true, Bool.not_false, Nat.reduceBEq, Nat.reduceEqDiff, decide_true, decide_false, cond_true, cond_false, List.filter_nil, List.filter_cons, Nat.reduceAdd, Nat.reduceLeDiff, reduceCtorEq, List.length_nil, List.length_cons, Nat.mul_one, if_true, if_false, Bool.false_eq_true, eq_self, and_true, true_and, retL, resultsL, resAllL, resOfL, List.append_nil, List.nil_append, List.cons_append, true_or, or_true, false_or, or_false, false_and, and_false, not_true_eq_false, not_false_eq_true, ne_eq, unL, trim_nil, views_pures, LV.pures, LV.pure, freeze, Nat.reduceDiv, Int.reduceEq, Int.reduceLT, Int.reduceLE, Int.natCast_zero, LV.cells, allocL, List.getElem?_cons_zero, List.getElem?_cons_succ, storeL, spliceL, List.take_zero, List.take_succ_cons, List.drop_zero, List.drop_succ_cons, List.drop_nil, List.take_nil, Nat.le_refl, Nat.reduceMul, List.set_cons_zero, List.set_cons_succ, LV.scalar, List.all_cons, List.all_nil, Nat.lt_add_one, Nat.zero_lt_one, Nat.reduceLT, Nat.lt_irrefl, fillL, List.length_append, foldIntL, kind_beq, pures_int, solids_int, plains_int, unders_int, scalars_int, r1, r2, hz, f1, hw1, f2, hpos, Nat.zero_add, Nat.add_zero, lf, show 6 ≤ s.length * 6 by omega, sg, t6]
def fWhole (s : List Int) : Pr2 := fO (fRate s).1 (fRate s).2.1
theorem fwhole_c (nl ex : Bool) (sz : Nat) {s : List Int} (K : OkS s) (m : LMem) :
    clF LP n_post_rating_post_few_whole [.elt fCells 0, IL nl ex sz s] m = some (.P, .agg [.int .i64 (fWhole s).1, .int .i64 (fWhole s).2], m) := by
  have hr := fun m => frate_c nl ex sz K m
  unfold fWhole
  simp only [t6] at hr
  generalize fRate s = x at *
  have q := ways3_c x.1 x.2.1
  refine call_P lp_post_rating_post_few_whole rfl (by simp [LV.pures, LV.pure]) (m1 := [⟨[.int .i64 (fO x.1 x.2.1).1, .int .i64 (fO x.1 x.2.1).2], true⟩, ⟨t6 x, true⟩]) ?_ rfl m
  simp only [post_rating_post_few_whole, post_rating_post_few_whole.B, beqT, beqF, exF_seq, exF_region, exF_block, exF_cond, exF_ret, exF_exit, exF_skip, runL, wantL, stepL, evL, evC, LEnv.at, putL, loadFine, loadL, cellsAt, Trk.putNew, Trk.up, Trk.touch, Trk.gives, Trk.calm, Trk.hit, opdsOf, Trk.fresh, LEnv.keep, LEnv.ofFrom, List.map_cons, List.map_nil, nbeq, nble, nblt, ofAV, ofAVs, lenL, bin_add, bin_sub, bin_mul, bin_eql, bin_neq, bin_lss, bin_leq, bin_gtr, bin_geq, natL_nat, natL_zero, natL_one, natL_two, Nat.zero_mul, List.any_cons, List.any_nil, Bool.or_false, Bool.false_or, Bool.true_or, Bool.or_true, Bool.and_true, Bool.true_and, Bool.and_false, Bool.false_and, Bool.not_true, Bool.not_false, Nat.reduceBEq, Nat.reduceEqDiff, decide_true, decide_false, cond_true, cond_false, List.filter_nil, List.filter_cons, Nat.reduceAdd, Nat.reduceLeDiff, reduceCtorEq, List.length_nil, List.length_cons, Nat.mul_one, if_true, if_false, Bool.false_eq_true, eq_self, and_true, true_and, retL, resultsL, resAllL, resOfL, List.append_nil, List.nil_append, List.cons_append, true_or, or_true, false_or, or_false, false_and, and_false, not_true_eq_false, not_false_eq_true, ne_eq, unL, trim_nil, views_pures, LV.pures, LV.pure, freeze, Nat.reduceDiv, Int.reduceEq, Int.reduceLT, Int.reduceLE, Int.natCast_zero, LV.cells, allocL, List.getElem?_cons_zero, List.getElem?_cons_succ, storeL, spliceL, List.take_zero, List.take_succ_cons, List.drop_zero, List.drop_succ_cons, List.drop_nil, List.take_nil, Nat.le_refl, Nat.reduceMul, List.set_cons_zero, List.set_cons_succ, LV.scalar, List.all_cons, List.all_nil, Nat.lt_add_one, Nat.zero_lt_one, Nat.reduceLT, Nat.lt_irrefl, fillL, List.length_append, foldIntL, kind_beq, pures_int, solids_int, plains_int, unders_int, scalars_int, hr, q, Nat.zero_add, Nat.add_zero, t6]

/-! ### It follows the rating by sets -/
def RG (t : Nat) (x : Pr2) (y : Few) : Prop := match y with
  | some c => x.1 = (c.1 : Int) ∧ c.1 ≤ 2 ^ t ∧ (18446744073709551616 : Int) ∣ x.2 - (c.2 : Int)
  | none => 1048576 ≤ x.1 ∧ x.1 ≤ 1048576 * 2 ^ t ∧ (18446744073709551616 : Int) ∣ x.2
theorem rg_up {t : Nat} {x : Pr2} {y : Few} (h : RG t x y) : RG (t + 1) x y := by
  have e : 2 ^ (t + 1) = 2 * 2 ^ t := by rw [Nat.pow_succ, Nat.mul_comm]
  have e' : (2 : Int) ^ (t + 1) = 2 * 2 ^ t := by rw [Int.pow_succ, Int.mul_comm]
  have : (0 : Int) ≤ 2 ^ t := Int.le_of_lt (Int.pow_pos (by omega))
  cases y <;> simp only [RG, e, e'] at h ⊢ <;> omega
theorem rg_j {t : Nat} (ht : t < 10) {x x' : Pr2} {y y' : Few} (h : RG t x y) (h' : RG t x' y') : RG (t + 1) (fJ x x') (mul y y') := by
  have e : 2 ^ (t + 1) = 2 * 2 ^ t := by rw [Nat.pow_succ, Nat.mul_comm]
  have e' : (2 : Int) ^ (t + 1) = 2 * 2 ^ t := by rw [Int.pow_succ, Int.mul_comm]
  have hb := pow_le (show t < 12 by omega)
  have hc : ((2 ^ t : Nat) : Int) = (2 : Int) ^ t := by simp
  have hd := wrap_dvd (x.2 * x'.2)
  have hw : IntKind.i64.wrap (x.1 + x'.1) = x.1 + x'.1 := by
    apply wrap_in
    cases y <;> cases y' <;> simp only [RG] at h h' <;> omega
  show RG (t + 1) (IntKind.i64.wrap (x.1 + x'.1), IntKind.i64.wrap (x.2 * x'.2)) (Few.mul y y')
  rw [hw]
  cases y with
  | none =>
    have : (18446744073709551616 : Int) ∣ x.2 * x'.2 := by
      simp only [RG] at h; exact Int.dvd_mul_of_dvd_left h.2.2
    cases y' <;> simp only [RG, Few.mul, e, e'] at h h' ⊢ <;> exact ⟨by omega, by omega, by omega⟩
  | some c =>
    cases y' with
    | none =>
      have : (18446744073709551616 : Int) ∣ x.2 * x'.2 := by
        simp only [RG] at h'; exact Int.dvd_mul_of_dvd_right h'.2.2
      simp only [RG, Few.mul, e, e'] at h h' ⊢; exact ⟨by omega, by omega, by omega⟩
    | some c' =>
      simp only [RG, Few.mul, e] at h h' ⊢
      refine ⟨by omega, by omega, ?_⟩
      have e2 : IntKind.i64.wrap (x.2 * x'.2) - ((c.2 * c'.2 : Nat) : Int) = (IntKind.i64.wrap (x.2 * x'.2) - x.2 * x'.2) + ((x.2 - c.2) * x'.2 + c.2 * (x'.2 - c'.2)) := by
        rw [Int.natCast_mul, Int.sub_mul, Int.mul_sub]; omega
      rw [e2]
      exact Int.dvd_add (wrap_dvd _) (Int.dvd_add (Int.dvd_mul_of_dvd_left h.2.2) (Int.dvd_mul_of_dvd_right h'.2.2))
theorem rg_o {t : Nat} (ht : t < 12) {x x' : Pr2} {y y' : Few} (h : RG t x y) (h' : RG t x' y') : RG t (fO x x') (add y y') := by
  have hb := pow_le ht
  have hd := wrap_dvd (x.2 + x'.2)
  show RG t (fO x x') (Few.add y y')
  unfold fO
  cases y with
  | none =>
    cases y' with
    | none =>
      simp only [RG, Few.add] at h h' ⊢
      split
      · exact h
      · split
        · exact h'
        · exact ⟨h.1, h.2.1, by dsimp only; omega⟩
    | some c' =>
      simp only [RG, Few.add] at h h' ⊢
      rw [if_neg (by omega), if_pos (by omega)]
      exact h'
  | some c =>
    cases y' with
    | none =>
      simp only [RG, Few.add] at h h' ⊢
      rw [if_pos (by omega)]
      exact h
    | some c' =>
      have g := h
      have g' := h'
      simp only [RG] at h h'
      by_cases c1 : c.1 < c'.1
      · rw [if_pos (show x.1 < x'.1 by omega), show Few.add (some c) (some c') = some c from if_pos c1]; exact g
      · rw [if_neg (show ¬ x.1 < x'.1 by omega)]
        by_cases c2 : c'.1 < c.1
        · rw [if_pos (show x'.1 < x.1 by omega), show Few.add (some c) (some c') = some c' from (if_neg c1).trans (if_pos c2)]; exact g'
        · rw [if_neg (show ¬ x'.1 < x.1 by omega), show Few.add (some c) (some c') = some (c.1, c.2 + c'.2) from (if_neg c1).trans (if_neg c2)]
          refine ⟨h.1, h.2.1, ?_⟩
          dsimp only
          omega
/-- It is a number of the machine. -/
def rng (x : Pr2) : Prop := -9223372036854775808 ≤ x.2 ∧ x.2 ≤ 9223372036854775807
def RF (t : Nat) (x : Pr2) (y : Few) : Prop := rng x ∧ RG t x y
theorem rf_up {t : Nat} {x : Pr2} {y : Few} (h : RF t x y) : RF (t + 1) x y := ⟨h.1, rg_up h.2⟩
theorem rf_j {t : Nat} (ht : t < 10) {x x' : Pr2} {y y' : Few} (h : RF t x y) (h' : RF t x' y') : RF (t + 1) (fJ x x') (mul y y') := ⟨wrap_range _, rg_j ht h.2 h'.2⟩
theorem rf_o {t : Nat} (ht : t < 12) {x x' : Pr2} {y y' : Few} (h : RF t x y) (h' : RF t x' y') : RF t (fO x x') (add y y') := ⟨by
  unfold fO
  split
  · exact h.1
  · split
    · exact h'.1
    · exact wrap_range _, rg_o ht h.2 h'.2⟩
def RT6 (t : Nat) (x : T6) (y : Tri Few) : Prop := RF t x.1 y.m ∧ RF t x.2.1 y.r ∧ RF t x.2.2 y.w
theorem rf_merge {t : Nat} (ht : t < 10) {b o : T6} {b' o' : Tri Few} (hb : RT6 t b b') (ho : RT6 t o o') : RT6 (t + 1) (fMerge b o) (mergeT b' o') := by
  obtain ⟨b1, b2, b3⟩ := hb
  obtain ⟨o1, o2, o3⟩ := ho
  have h1 := rf_o (by omega) o1 o2
  exact ⟨rf_j ht b1 (rf_o (by omega) h1 o3), rf_o (by omega) (rf_j ht b2 h1) (rf_j ht b3 o1), rf_j ht b3 o2⟩
theorem rf_fold {s : List Int} (Ks : OkS s) (k : Nat) : ∀ (t : Nat) (T : List T6) (T' : Nat → Tri Few), t + k ≤ 10 → k < s.length → T.length = s.length → (∀ v, v < s.length → RT6 t (T.getD v z6) (T' v)) →
    ∀ v, v < s.length → RT6 (t + k) ((fFold s k T).getD v z6) (foldT (par s) k T' v) := by
  induction k with
  | zero => intro t T T' _ _ _ h v hv; exact h v hv
  | succ k ih =>
    intro t T T' ht hk hl h v hv
    rw [fFold, foldT, show t + (k + 1) = t + 1 + k by omega]
    have hp : par s (k + 1) = (s.getD (k + 1) 0).toNat := by rw [par, if_pos hk]
    have hlt := par_lt Ks (k + 1) (by omega)
    rw [← hp]
    refine ih (t + 1) _ _ (by omega) (by omega) (by simpa using hl) (fun v hv => ?_) v hv
    have hm := rf_merge (by omega) (h (par s (k + 1)) (by omega)) (h (k + 1) hk)
    by_cases c : v = par s (k + 1)
    · subst c
      have : (T.set (par s (k + 1)) (fMerge (T.getD (par s (k + 1)) z6) (T.getD (k + 1) z6))).getD (par s (k + 1)) z6 = fMerge (T.getD (par s (k + 1)) z6) (T.getD (k + 1) z6) := by
        simp [List.getD_eq_getElem?_getD, List.getElem?_set, show par s (k + 1) < T.length by omega]
      rw [this]
      simp only [setT, if_true]
      exact hm
    · have : ∀ x, (T.set (par s (k + 1)) x).getD v z6 = T.getD v z6 := fun x => by
        have : ¬ par s (k + 1) = v := fun e => c e.symm
        simp [List.getD_eq_getElem?_getD, List.getElem?_set, this]
      rw [this]
      simp only [setT, if_neg c]
      exact ⟨rf_up (h v hv).1, rf_up (h v hv).2.1, rf_up (h v hv).2.2⟩
theorem ffill_at (n : Nat) : ∀ (k : Nat) (T : List T6) (v : Nat), v < T.length → k ≤ v → v < k + n → (fFill n k T).getD v z6 = fRow := by
  induction n with
  | zero => intro k T v _ h1 h2; omega
  | succ n ih =>
    intro k T v hv h1 h2
    rw [fFill]
    by_cases c : v = k
    · subst c
      have : ∀ (n j : Nat) (T : List T6), v < j → v < T.length → (fFill n j T).getD v z6 = T.getD v z6 := by
        intro n
        induction n with
        | zero => intros; rfl
        | succ n ih2 =>
          intro j T hj hT
          rw [fFill, ih2 _ _ (by omega) (by simpa using hT)]
          have : ¬ j = v := by omega
          simp [List.getD_eq_getElem?_getD, List.getElem?_set, this]
      rw [this _ _ _ (by omega) (by simpa using hv)]
      simp [List.getD_eq_getElem?_getD, List.getElem?_set, hv]
    · exact ih _ _ _ (by simpa using hv) (by omega) (by omega)
/-- How many of the smallest there are. -/
theorem ways_eq {s : List Int} (Ks : OkS s) : (fWhole s).2 = (smallS s).length := by
  have hpos := Ks.pos
  have h10 := Ks.le
  obtain ⟨n, hn⟩ : ∃ n, s.length = n + 1 := ⟨s.length - 1, by omega⟩
  have hf := rf_fold Ks n 0 (fFill s.length 0 (List.replicate s.length z6)) (startT (K := Few) (fun _ => some (1, 1)) (fun _ => false) (fun _ => false)) (by omega) (by omega) (by rw [fFill_len]; simp) (fun v hv => by
    rw [ffill_at _ _ _ _ (by simpa using hv) (by omega) (by omega)]
    refine ⟨?_, ?_, ?_⟩ <;> simp [RF, RG, rng, startT, SR.zero, SR.one]) 0 (by omega)
  have hw := whole_sum (K := Few) (par s) (par_lt Ks) (fun _ => some (1, 1)) (fun _ => false) (fun _ => false) n
  rw [Nat.zero_add] at hf
  have hr : RF n (fWhole s) (add (foldT (par s) n (startT (K := Few) (fun _ => some (1, 1)) (fun _ => false) (fun _ => false)) 0).m (foldT (par s) n (startT (K := Few) (fun _ => some (1, 1)) (fun _ => false) (fun _ => false)) 0).r) := by
    have e : fRate s = (fFold s n (fFill s.length 0 (List.replicate s.length z6))).getD 0 z6 := by
      rw [fRate, fTab, hn, Nat.add_sub_cancel]
    rw [fWhole, e]
    exact rf_o (by omega) hf.1 hf.2.1
  rw [hw] at hr
  have hc : ∀ S k, costN (K := Few) (fun _ => some (1, 1)) S k = some (cst (fun _ => 1) S k, 1) := by
    intro S k
    unfold costN
    induction k with
    | zero => rfl
    | succ k ih =>
      rw [prodN, ih, cst]
      split <;> simp [SR.mul, Few.mul, SR.one]
  have e2 : sumL (K := Few) (fun S => if allN (okS (par s) (fun _ => false) (fun _ => false) S) (n + 1) then costN (K := Few) (fun _ => some (1, 1)) S (n + 1) else zero) (asc 0 (n + 1)) = sumL (K := Few) (fun S => if dom (par s) s.length S then (some (cost (fun _ => 1) S, 1) : Few) else none) (asc 0 s.length) := by
    rw [← hn]
    refine sumL_congr _ _ _ fun S hS => ?_
    rw [hc, cst_cost (fun _ => 1) _ S hS]
    rfl
  rw [e2, few_sum] at hr
  have e3 : sumL (K := MinP) (fun S => if dom (par s) s.length S then (some (cost (fun _ => 1) S) : MinP) else none) (asc 0 s.length) = some (bestC s (fun _ => 1)) := best_ok s (fun _ => 1)
  rw [e3] at hr
  have e4 : ((asc 0 s.length).filter fun l => dom (par s) s.length l && decide (cost (fun _ => 1) l = bestC s (fun _ => 1))) = smallS s := rfl
  simp only [e4, RF, RG] at hr
  have hle : (smallS s).length ≤ 1024 := by
    refine Nat.le_trans (List.length_filter_le _ _) ?_
    rw [asc_length]
    exact Nat.pow_le_pow_right (n := 2) (by omega) Ks.le
  have hrange := hr.1
  have := hr.2.2.2
  simp only [rng] at hrange
  omega
end Go.Am.Post

/-
  The examples of chapter 12 hold: the list machine's runs, evaluated by the kernel.
-/
set_option linter.unusedVariables false
set_option linter.unusedSimpArgs false
set_option maxRecDepth 100000
namespace Go.Am.Post
open Go.Am.G
theorem run0 : callL LP 3000 n_law12_A [] [] = some (.P, .lst false true 1 6 [.int .i64 (-1), .int .i64 0, .int .i64 1, .int .i64 2, .int .i64 3, .int .i64 4], []) := by kernel_rfl
theorem ran0 (m : LMem) : clF LP n_law12_A [] m = some (.P, .lst false true 1 6 [.int .i64 (-1), .int .i64 0, .int .i64 1, .int .i64 2, .int .i64 3, .int .i64 4], m) := call_ran lp_law12_A rfl rfl run0 m
theorem run1 : callL LP 3000 n_law12_B [] [] = some (.P, .lst false true 1 4 [.int .i64 (-1), .int .i64 0, .int .i64 0, .int .i64 0], []) := by kernel_rfl
theorem ran1 (m : LMem) : clF LP n_law12_B [] m = some (.P, .lst false true 1 4 [.int .i64 (-1), .int .i64 0, .int .i64 0, .int .i64 0], m) := call_ran lp_law12_B rfl rfl run1 m
theorem run2 : callL LP 3000 n_law12_C [] [] = some (.P, .lst false true 1 7 [.int .i64 (-1), .int .i64 0, .int .i64 1, .int .i64 0, .int .i64 3, .int .i64 0, .int .i64 5], []) := by kernel_rfl
theorem ran2 (m : LMem) : clF LP n_law12_C [] m = some (.P, .lst false true 1 7 [.int .i64 (-1), .int .i64 0, .int .i64 1, .int .i64 0, .int .i64 3, .int .i64 0, .int .i64 5], m) := call_ran lp_law12_C rfl rfl run2 m
theorem run3 : callL LP 3000 n_post_Hand [.lst false true 1 7 [.int .i64 (-1), .int .i64 0, .int .i64 1, .int .i64 0, .int .i64 3, .int .i64 0, .int .i64 5], .int .i64 0] [] = some (.P, .tup [.lst false false 1 4 [.int .i64 0, .int .i64 1, .int .i64 3, .int .i64 5], .int .i64 0], []) := by kernel_rfl
theorem ran3 (m : LMem) : clF LP n_post_Hand [.lst false true 1 7 [.int .i64 (-1), .int .i64 0, .int .i64 1, .int .i64 0, .int .i64 3, .int .i64 0, .int .i64 5], .int .i64 0] m = some (.P, .tup [.lst false false 1 4 [.int .i64 0, .int .i64 1, .int .i64 3, .int .i64 5], .int .i64 0], m) := call_ran lp_post_Hand rfl rfl run3 m
theorem run4 : callL LP 3000 n_post_Hand [.lst false true 1 7 [.int .i64 (-1), .int .i64 0, .int .i64 1, .int .i64 0, .int .i64 3, .int .i64 0, .int .i64 5], .int .i64 7] [] = some (.P, .tup [.lst true true 0 0 [], .int .i64 2], []) := by kernel_rfl
theorem ran4 (m : LMem) : clF LP n_post_Hand [.lst false true 1 7 [.int .i64 (-1), .int .i64 0, .int .i64 1, .int .i64 0, .int .i64 3, .int .i64 0, .int .i64 5], .int .i64 7] m = some (.P, .tup [.lst true true 0 0 [], .int .i64 2], m) := call_ran lp_post_Hand rfl rfl run4 m
theorem run5 : callL LP 3000 n_post_Fewest [.lst false true 1 7 [.int .i64 (-1), .int .i64 0, .int .i64 1, .int .i64 0, .int .i64 3, .int .i64 0, .int .i64 5]] [] = some (.P, .tup [.lst false false 1 3 [.int .i64 1, .int .i64 3, .int .i64 5], .int .i64 0], []) := by kernel_rfl
theorem ran5 (m : LMem) : clF LP n_post_Fewest [.lst false true 1 7 [.int .i64 (-1), .int .i64 0, .int .i64 1, .int .i64 0, .int .i64 3, .int .i64 0, .int .i64 5]] m = some (.P, .tup [.lst false false 1 3 [.int .i64 1, .int .i64 3, .int .i64 5], .int .i64 0], m) := call_ran lp_post_Fewest rfl rfl run5 m
theorem run6 : callL LP 3000 n_post_Apart [.lst false true 1 7 [.int .i64 (-1), .int .i64 0, .int .i64 1, .int .i64 0, .int .i64 3, .int .i64 0, .int .i64 5]] [] = some (.P, .tup [.lst false false 1 3 [.int .i64 1, .int .i64 4, .int .i64 6], .int .i64 0], []) := by kernel_rfl
theorem ran6 (m : LMem) : clF LP n_post_Apart [.lst false true 1 7 [.int .i64 (-1), .int .i64 0, .int .i64 1, .int .i64 0, .int .i64 3, .int .i64 0, .int .i64 5]] m = some (.P, .tup [.lst false false 1 3 [.int .i64 1, .int .i64 4, .int .i64 6], .int .i64 0], m) := call_ran lp_post_Apart rfl rfl run6 m
theorem run7 : callL LP 3000 n_post_Count [.lst false true 1 6 [.int .i64 (-1), .int .i64 0, .int .i64 1, .int .i64 2, .int .i64 3, .int .i64 4]] [] = some (.P, .tup [.int .i64 31, .int .i64 0], []) := by kernel_rfl
theorem ran7 (m : LMem) : clF LP n_post_Count [.lst false true 1 6 [.int .i64 (-1), .int .i64 0, .int .i64 1, .int .i64 2, .int .i64 3, .int .i64 4]] m = some (.P, .tup [.int .i64 31, .int .i64 0], m) := call_ran lp_post_Count rfl rfl run7 m
theorem run8 : callL LP 3000 n_post_Ways [.lst false true 1 7 [.int .i64 (-1), .int .i64 0, .int .i64 1, .int .i64 0, .int .i64 3, .int .i64 0, .int .i64 5]] [] = some (.P, .tup [.int .i64 7, .int .i64 0], []) := by kernel_rfl
theorem ran8 (m : LMem) : clF LP n_post_Ways [.lst false true 1 7 [.int .i64 (-1), .int .i64 0, .int .i64 1, .int .i64 0, .int .i64 3, .int .i64 0, .int .i64 5]] m = some (.P, .tup [.int .i64 7, .int .i64 0], m) := call_ran lp_post_Ways rfl rfl run8 m
theorem run9 : callL LP 3000 n_post_Always [.lst false true 1 6 [.int .i64 (-1), .int .i64 0, .int .i64 1, .int .i64 2, .int .i64 3, .int .i64 4]] [] = some (.P, .tup [.lst false false 1 2 [.int .i64 1, .int .i64 4], .int .i64 0], []) := by kernel_rfl
theorem ran9 (m : LMem) : clF LP n_post_Always [.lst false true 1 6 [.int .i64 (-1), .int .i64 0, .int .i64 1, .int .i64 2, .int .i64 3, .int .i64 4]] m = some (.P, .tup [.lst false false 1 2 [.int .i64 1, .int .i64 4], .int .i64 0], m) := call_ran lp_post_Always rfl rfl run9 m
theorem run10 : callL LP 3000 n_post_Never [.lst false true 1 7 [.int .i64 (-1), .int .i64 0, .int .i64 1, .int .i64 0, .int .i64 3, .int .i64 0, .int .i64 5]] [] = some (.P, .tup [.lst false false 1 1 [.int .i64 0], .int .i64 0], []) := by kernel_rfl
theorem ran10 (m : LMem) : clF LP n_post_Never [.lst false true 1 7 [.int .i64 (-1), .int .i64 0, .int .i64 1, .int .i64 0, .int .i64 3, .int .i64 0, .int .i64 5]] m = some (.P, .tup [.lst false false 1 1 [.int .i64 0], .int .i64 0], m) := call_ran lp_post_Never rfl rfl run10 m
theorem run11 : callL LP 3000 n_post_Cheapest [.lst false true 1 4 [.int .i64 (-1), .int .i64 0, .int .i64 0, .int .i64 0], .lst false true 1 4 [.int .i64 9, .int .i64 1, .int .i64 1, .int .i64 1]] [] = some (.P, .tup [.lst false false 1 3 [.int .i64 1, .int .i64 2, .int .i64 3], .int .i64 0], []) := by kernel_rfl
theorem ran11 (m : LMem) : clF LP n_post_Cheapest [.lst false true 1 4 [.int .i64 (-1), .int .i64 0, .int .i64 0, .int .i64 0], .lst false true 1 4 [.int .i64 9, .int .i64 1, .int .i64 1, .int .i64 1]] m = some (.P, .tup [.lst false false 1 3 [.int .i64 1, .int .i64 2, .int .i64 3], .int .i64 0], m) := call_ran lp_post_Cheapest rfl rfl run11 m
theorem run12 : callL LP 3000 n_post_Cheapest [.lst false true 1 4 [.int .i64 (-1), .int .i64 0, .int .i64 0, .int .i64 0], .lst false true 1 4 [.int .i64 3, .int .i64 1, .int .i64 1, .int .i64 1]] [] = some (.P, .tup [.lst false false 1 1 [.int .i64 0], .int .i64 0], []) := by kernel_rfl
theorem ran12 (m : LMem) : clF LP n_post_Cheapest [.lst false true 1 4 [.int .i64 (-1), .int .i64 0, .int .i64 0, .int .i64 0], .lst false true 1 4 [.int .i64 3, .int .i64 1, .int .i64 1, .int .i64 1]] m = some (.P, .tup [.lst false false 1 1 [.int .i64 0], .int .i64 0], m) := call_ran lp_post_Cheapest rfl rfl run12 m
theorem run13 : callL LP 3000 n_law12_same [.lst false false 1 4 [.int .i64 0, .int .i64 1, .int .i64 3, .int .i64 5], .lst false true 1 4 [.int .i64 0, .int .i64 1, .int .i64 3, .int .i64 5]] [] = some (.P, .bool true, []) := by kernel_rfl
theorem ran13 (m : LMem) : clF LP n_law12_same [.lst false false 1 4 [.int .i64 0, .int .i64 1, .int .i64 3, .int .i64 5], .lst false true 1 4 [.int .i64 0, .int .i64 1, .int .i64 3, .int .i64 5]] m = some (.P, .bool true, m) := call_ran lp_law12_same rfl rfl run13 m
theorem run14 : callL LP 3000 n_law12_same [.lst false false 1 3 [.int .i64 1, .int .i64 3, .int .i64 5], .lst false true 1 3 [.int .i64 1, .int .i64 3, .int .i64 5]] [] = some (.P, .bool true, []) := by kernel_rfl
theorem ran14 (m : LMem) : clF LP n_law12_same [.lst false false 1 3 [.int .i64 1, .int .i64 3, .int .i64 5], .lst false true 1 3 [.int .i64 1, .int .i64 3, .int .i64 5]] m = some (.P, .bool true, m) := call_ran lp_law12_same rfl rfl run14 m
theorem run15 : callL LP 3000 n_law12_same [.lst false false 1 3 [.int .i64 1, .int .i64 4, .int .i64 6], .lst false true 1 3 [.int .i64 1, .int .i64 4, .int .i64 6]] [] = some (.P, .bool true, []) := by kernel_rfl
theorem ran15 (m : LMem) : clF LP n_law12_same [.lst false false 1 3 [.int .i64 1, .int .i64 4, .int .i64 6], .lst false true 1 3 [.int .i64 1, .int .i64 4, .int .i64 6]] m = some (.P, .bool true, m) := call_ran lp_law12_same rfl rfl run15 m
theorem run16 : callL LP 3000 n_law12_same [.lst false false 1 2 [.int .i64 1, .int .i64 4], .lst false true 1 2 [.int .i64 1, .int .i64 4]] [] = some (.P, .bool true, []) := by kernel_rfl
theorem ran16 (m : LMem) : clF LP n_law12_same [.lst false false 1 2 [.int .i64 1, .int .i64 4], .lst false true 1 2 [.int .i64 1, .int .i64 4]] m = some (.P, .bool true, m) := call_ran lp_law12_same rfl rfl run16 m
theorem run17 : callL LP 3000 n_law12_same [.lst false false 1 1 [.int .i64 0], .lst false true 1 1 [.int .i64 0]] [] = some (.P, .bool true, []) := by kernel_rfl
theorem ran17 (m : LMem) : clF LP n_law12_same [.lst false false 1 1 [.int .i64 0], .lst false true 1 1 [.int .i64 0]] m = some (.P, .bool true, m) := call_ran lp_law12_same rfl rfl run17 m
theorem run18 : callL LP 3000 n_law12_same [.lst false false 1 3 [.int .i64 1, .int .i64 2, .int .i64 3], .lst false true 1 3 [.int .i64 1, .int .i64 2, .int .i64 3]] [] = some (.P, .bool true, []) := by kernel_rfl
theorem ran18 (m : LMem) : clF LP n_law12_same [.lst false false 1 3 [.int .i64 1, .int .i64 2, .int .i64 3], .lst false true 1 3 [.int .i64 1, .int .i64 2, .int .i64 3]] m = some (.P, .bool true, m) := call_ran lp_law12_same rfl rfl run18 m
theorem run19 : callL LP 3000 n_law12_list [.lst false true 1 4 [.int .i64 0, .int .i64 1, .int .i64 3, .int .i64 5]] [] = some (.P, .lst false true 1 4 [.int .i64 0, .int .i64 1, .int .i64 3, .int .i64 5], []) := by kernel_rfl
theorem ran19 (m : LMem) : clF LP n_law12_list [.lst false true 1 4 [.int .i64 0, .int .i64 1, .int .i64 3, .int .i64 5]] m = some (.P, .lst false true 1 4 [.int .i64 0, .int .i64 1, .int .i64 3, .int .i64 5], m) := call_ran lp_law12_list rfl rfl run19 m
theorem run20 : callL LP 3000 n_law12_list [.lst false true 1 3 [.int .i64 1, .int .i64 3, .int .i64 5]] [] = some (.P, .lst false true 1 3 [.int .i64 1, .int .i64 3, .int .i64 5], []) := by kernel_rfl
theorem ran20 (m : LMem) : clF LP n_law12_list [.lst false true 1 3 [.int .i64 1, .int .i64 3, .int .i64 5]] m = some (.P, .lst false true 1 3 [.int .i64 1, .int .i64 3, .int .i64 5], m) := call_ran lp_law12_list rfl rfl run20 m
theorem run21 : callL LP 3000 n_law12_list [.lst false true 1 3 [.int .i64 1, .int .i64 4, .int .i64 6]] [] = some (.P, .lst false true 1 3 [.int .i64 1, .int .i64 4, .int .i64 6], []) := by kernel_rfl
theorem ran21 (m : LMem) : clF LP n_law12_list [.lst false true 1 3 [.int .i64 1, .int .i64 4, .int .i64 6]] m = some (.P, .lst false true 1 3 [.int .i64 1, .int .i64 4, .int .i64 6], m) := call_ran lp_law12_list rfl rfl run21 m
theorem run22 : callL LP 3000 n_law12_list [.lst false true 1 2 [.int .i64 1, .int .i64 4]] [] = some (.P, .lst false true 1 2 [.int .i64 1, .int .i64 4], []) := by kernel_rfl
theorem ran22 (m : LMem) : clF LP n_law12_list [.lst false true 1 2 [.int .i64 1, .int .i64 4]] m = some (.P, .lst false true 1 2 [.int .i64 1, .int .i64 4], m) := call_ran lp_law12_list rfl rfl run22 m
theorem run23 : callL LP 3000 n_law12_list [.lst false true 1 1 [.int .i64 0]] [] = some (.P, .lst false true 1 1 [.int .i64 0], []) := by kernel_rfl
theorem ran23 (m : LMem) : clF LP n_law12_list [.lst false true 1 1 [.int .i64 0]] m = some (.P, .lst false true 1 1 [.int .i64 0], m) := call_ran lp_law12_list rfl rfl run23 m
theorem run24 : callL LP 3000 n_law12_list [.lst false true 1 3 [.int .i64 1, .int .i64 2, .int .i64 3]] [] = some (.P, .lst false true 1 3 [.int .i64 1, .int .i64 2, .int .i64 3], []) := by kernel_rfl
theorem ran24 (m : LMem) : clF LP n_law12_list [.lst false true 1 3 [.int .i64 1, .int .i64 2, .int .i64 3]] m = some (.P, .lst false true 1 3 [.int .i64 1, .int .i64 2, .int .i64 3], m) := call_ran lp_law12_list rfl rfl run24 m
theorem run25 : callL LP 3000 n_law12_list [.lst false true 1 4 [.int .i64 9, .int .i64 1, .int .i64 1, .int .i64 1]] [] = some (.P, .lst false true 1 4 [.int .i64 9, .int .i64 1, .int .i64 1, .int .i64 1], []) := by kernel_rfl
theorem ran25 (m : LMem) : clF LP n_law12_list [.lst false true 1 4 [.int .i64 9, .int .i64 1, .int .i64 1, .int .i64 1]] m = some (.P, .lst false true 1 4 [.int .i64 9, .int .i64 1, .int .i64 1, .int .i64 1], m) := call_ran lp_law12_list rfl rfl run25 m
theorem run26 : callL LP 3000 n_law12_list [.lst false true 1 4 [.int .i64 3, .int .i64 1, .int .i64 1, .int .i64 1]] [] = some (.P, .lst false true 1 4 [.int .i64 3, .int .i64 1, .int .i64 1, .int .i64 1], []) := by kernel_rfl
theorem ran26 (m : LMem) : clF LP n_law12_list [.lst false true 1 4 [.int .i64 3, .int .i64 1, .int .i64 1, .int .i64 1]] m = some (.P, .lst false true 1 4 [.int .i64 3, .int .i64 1, .int .i64 1, .int .i64 1], m) := call_ran lp_law12_list rfl rfl run26 m
theorem run27 : callL LP 3000 n_law12_list [.lst false true 1 2 [.int .i64 0, .int .i64 3]] [] = some (.P, .lst false true 1 2 [.int .i64 0, .int .i64 3], []) := by kernel_rfl
theorem ran27 (m : LMem) : clF LP n_law12_list [.lst false true 1 2 [.int .i64 0, .int .i64 3]] m = some (.P, .lst false true 1 2 [.int .i64 0, .int .i64 3], m) := call_ran lp_law12_list rfl rfl run27 m
theorem run28 : callL LP 3000 n_law12_list [.lst false true 1 2 [.int .i64 1, .int .i64 3]] [] = some (.P, .lst false true 1 2 [.int .i64 1, .int .i64 3], []) := by kernel_rfl
theorem ran28 (m : LMem) : clF LP n_law12_list [.lst false true 1 2 [.int .i64 1, .int .i64 3]] m = some (.P, .lst false true 1 2 [.int .i64 1, .int .i64 3], m) := call_ran lp_law12_list rfl rfl run28 m
theorem run29 : callL LP 3000 n_law12_list [.lst false true 1 6 [.int .i64 (-1), .int .i64 0, .int .i64 1, .int .i64 2, .int .i64 3, .int .i64 4]] [] = some (.P, .lst false true 1 6 [.int .i64 (-1), .int .i64 0, .int .i64 1, .int .i64 2, .int .i64 3, .int .i64 4], []) := by kernel_rfl
theorem ran29 (m : LMem) : clF LP n_law12_list [.lst false true 1 6 [.int .i64 (-1), .int .i64 0, .int .i64 1, .int .i64 2, .int .i64 3, .int .i64 4]] m = some (.P, .lst false true 1 6 [.int .i64 (-1), .int .i64 0, .int .i64 1, .int .i64 2, .int .i64 3, .int .i64 4], m) := call_ran lp_law12_list rfl rfl run29 m
theorem run30 : callL LP 3000 n_law12_list [.lst false true 1 4 [.int .i64 (-1), .int .i64 0, .int .i64 0, .int .i64 0]] [] = some (.P, .lst false true 1 4 [.int .i64 (-1), .int .i64 0, .int .i64 0, .int .i64 0], []) := by kernel_rfl
theorem ran30 (m : LMem) : clF LP n_law12_list [.lst false true 1 4 [.int .i64 (-1), .int .i64 0, .int .i64 0, .int .i64 0]] m = some (.P, .lst false true 1 4 [.int .i64 (-1), .int .i64 0, .int .i64 0, .int .i64 0], m) := call_ran lp_law12_list rfl rfl run30 m
theorem run31 : callL LP 3000 n_law12_list [.lst false true 1 7 [.int .i64 (-1), .int .i64 0, .int .i64 1, .int .i64 0, .int .i64 3, .int .i64 0, .int .i64 5]] [] = some (.P, .lst false true 1 7 [.int .i64 (-1), .int .i64 0, .int .i64 1, .int .i64 0, .int .i64 3, .int .i64 0, .int .i64 5], []) := by kernel_rfl
theorem ran31 (m : LMem) : clF LP n_law12_list [.lst false true 1 7 [.int .i64 (-1), .int .i64 0, .int .i64 1, .int .i64 0, .int .i64 3, .int .i64 0, .int .i64 5]] m = some (.P, .lst false true 1 7 [.int .i64 (-1), .int .i64 0, .int .i64 1, .int .i64 0, .int .i64 3, .int .i64 0, .int .i64 5], m) := call_ran lp_law12_list rfl rfl run31 m
theorem run32 : callL LP 3000 n_post_Guards [.lst false true 1 6 [.int .i64 (-1), .int .i64 0, .int .i64 1, .int .i64 2, .int .i64 3, .int .i64 4], .lst false true 1 2 [.int .i64 1, .int .i64 4]] [] = some (.P, .int .i64 0, []) := by kernel_rfl
theorem ran32 (m : LMem) : clF LP n_post_Guards [.lst false true 1 6 [.int .i64 (-1), .int .i64 0, .int .i64 1, .int .i64 2, .int .i64 3, .int .i64 4], .lst false true 1 2 [.int .i64 1, .int .i64 4]] m = some (.P, .int .i64 0, m) := call_ran lp_post_Guards rfl rfl run32 m
theorem run33 : callL LP 3000 n_post_Guards [.lst false true 1 6 [.int .i64 (-1), .int .i64 0, .int .i64 1, .int .i64 2, .int .i64 3, .int .i64 4], .lst false true 1 2 [.int .i64 0, .int .i64 3]] [] = some (.P, .int .i64 14, []) := by kernel_rfl
theorem ran33 (m : LMem) : clF LP n_post_Guards [.lst false true 1 6 [.int .i64 (-1), .int .i64 0, .int .i64 1, .int .i64 2, .int .i64 3, .int .i64 4], .lst false true 1 2 [.int .i64 0, .int .i64 3]] m = some (.P, .int .i64 14, m) := call_ran lp_post_Guards rfl rfl run33 m
theorem run34 : callL LP 3000 n_post_Proves [.lst false true 1 7 [.int .i64 (-1), .int .i64 0, .int .i64 1, .int .i64 0, .int .i64 3, .int .i64 0, .int .i64 5], .lst false true 1 3 [.int .i64 1, .int .i64 4, .int .i64 6]] [] = some (.P, .int .i64 0, []) := by kernel_rfl
theorem ran34 (m : LMem) : clF LP n_post_Proves [.lst false true 1 7 [.int .i64 (-1), .int .i64 0, .int .i64 1, .int .i64 0, .int .i64 3, .int .i64 0, .int .i64 5], .lst false true 1 3 [.int .i64 1, .int .i64 4, .int .i64 6]] m = some (.P, .int .i64 0, m) := call_ran lp_post_Proves rfl rfl run34 m
theorem run35 : callL LP 3000 n_post_Proves [.lst false true 1 7 [.int .i64 (-1), .int .i64 0, .int .i64 1, .int .i64 0, .int .i64 3, .int .i64 0, .int .i64 5], .lst false true 1 2 [.int .i64 1, .int .i64 3]] [] = some (.P, .int .i64 14, []) := by kernel_rfl
theorem ran35 (m : LMem) : clF LP n_post_Proves [.lst false true 1 7 [.int .i64 (-1), .int .i64 0, .int .i64 1, .int .i64 0, .int .i64 3, .int .i64 0, .int .i64 5], .lst false true 1 2 [.int .i64 1, .int .i64 3]] m = some (.P, .int .i64 14, m) := call_ran lp_post_Proves rfl rfl run35 m
theorem works_c (m : LMem) : clF LP n_law12_works [] m = some (.P, .bool true, m) := by
  refine call_P lp_law12_works rfl rfl (m1 := []) ?_ rfl m
  simp only [law12_works, law12_works.B, beqT, beqF, exF_seq, exF_region, exF_block, exF_cond, exF_ret, exF_exit, exF_skip, runL, wantL, stepL, evL, evC, LEnv.at, putL, loadFine, loadL, cellsAt, Trk.putNew, Trk.up, Trk.touch, Trk.gives, Trk.calm, Trk.hit, opdsOf, Trk.fresh, LEnv.keep, LEnv.ofFrom, List.map_cons, List.map_nil, nbeq, nble, nblt, ofAV, ofAVs, lenL, bin_add, bin_sub, bin_mul, bin_eql, bin_neq, bin_lss, bin_leq, bin_gtr, bin_geq, natL_nat, natL_zero, natL_one, natL_two, Nat.zero_mul, List.any_cons, List.any_nil, Bool.or_false, Bool.false_or, Bool.true_or, Bool.or_true, Bool.and_true, Bool.true_and, Bool.and_false, Bool.false_and, Bool.not_true, Bool.not_false, Nat.reduceBEq, Nat.reduceEqDiff, decide_true, decide_false, cond_true, cond_false, List.filter_nil, List.filter_cons, Nat.reduceAdd, Nat.reduceLeDiff, reduceCtorEq, List.length_nil, List.length_cons, Nat.mul_one, if_true, if_false, Bool.false_eq_true, eq_self, and_true, true_and, retL, resultsL, resAllL, resOfL, List.append_nil, List.nil_append, List.cons_append, true_or, or_true, false_or, or_false, false_and, and_false, not_true_eq_false, not_false_eq_true, ne_eq, unL, trim_nil, views_pures, LV.pures, LV.pure, freeze, Nat.reduceDiv, Int.reduceEq, Int.reduceLT, Int.reduceLE, Int.natCast_zero, LV.cells, allocL, List.getElem?_cons_zero, List.getElem?_cons_succ, storeL, spliceL, List.take_zero, List.take_succ_cons, List.drop_zero, List.drop_succ_cons, List.drop_nil, List.take_nil, Nat.le_refl, Nat.reduceMul, List.set_cons_zero, List.set_cons_succ, LV.scalar, List.all_cons, List.all_nil, Nat.lt_add_one, Nat.zero_lt_one, Nat.reduceLT, Nat.lt_irrefl, fillL, List.length_append, foldIntL, kind_beq, pures_int, solids_int, plains_int, unders_int, scalars_int, ran0, ran1, ran2, ran3, ran4, ran5, ran6, ran7, ran8, ran9, ran10, ran11, ran12, ran13, ran14, ran15, ran16, ran17, ran18, ran19, ran20, ran21, ran22, ran23, ran24, ran25, ran26, ran27, ran28, ran29, ran30, ran31, ran32, ran33, ran34, ran35]
end Go.Am.Post


