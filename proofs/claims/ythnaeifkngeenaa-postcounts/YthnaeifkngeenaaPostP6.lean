/-
  Plain: the program's rating follows the rating by sets. No statement of the seat is proved here.
-/
import Derived.Test.YthnaeifkngeenaaPostC8
set_option linter.unusedVariables false
set_option linter.unusedSimpArgs false
namespace Go.Am.Post
open SR Go.Am.G

/-- What is behind each place. -/
def par (s : List Int) (v : Nat) : Nat := if v < s.length then (s.getD v 0).toNat else 0
theorem par_lt {s : List Int} (K : OkS s) (v : Nat) (hv : v ≠ 0) : par s v < v := by
  unfold par
  split
  · rename_i h
    have := K.hi v (by omega) h; omega
  · omega
/-- A number follows a rating; t parts at most were put together. -/
structure Sim (r : Rat) (K : Type) [SR K] (pk : Nat → K) (R : Nat → Int → K → Prop) (n : Nat) : Prop where
  up : ∀ t x y, R t x y → R (t + 1) x y
  j : ∀ t x y x' y', t < 10 → R t x y → R t x' y' → R (t + 1) (r.J x x') (mul y y')
  o : ∀ t x y x' y', t < 12 → R t x y → R t x' y' → R t (r.O x x') (add y y')
  post : ∀ i, i < n → R 0 (r.post i) (pk i)
  none : R 0 r.none zero
  empty : R 0 r.empty one
variable {r : Rat} {K : Type} [SR K] {pk : Nat → K} {R : Nat → Int → K → Prop} {n : Nat}
def RT (R : Nat → Int → K → Prop) (t : Nat) (x : T3) (y : Tri K) : Prop := R t x.1 y.m ∧ R t x.2.1 y.r ∧ R t x.2.2 y.w
theorem sim_merge (H : Sim r K pk R n) {t : Nat} (ht : t < 10) {b o : T3} {b' o' : Tri K} (hb : RT R t b b') (ho : RT R t o o') : RT R (t + 1) (mergeP r b o) (mergeT b' o') := by
  obtain ⟨b1, b2, b3⟩ := hb
  obtain ⟨o1, o2, o3⟩ := ho
  have h1 := H.o _ _ _ _ _ (by omega) o1 o2
  refine ⟨H.j _ _ _ _ _ ht b1 (H.o _ _ _ _ _ (by omega) h1 o3), H.o _ _ _ _ _ (by omega) (H.j _ _ _ _ _ ht b2 h1) (H.j _ _ _ _ _ ht b3 o1), H.j _ _ _ _ _ ht b3 o2⟩
theorem sim_fold (H : Sim r K pk R n) {s : List Int} (Ks : OkS s) (k : Nat) : ∀ (t : Nat) (T : List T3) (T' : Nat → Tri K), t + k ≤ 10 → k < s.length → T.length = s.length → (∀ v, v < s.length → RT R t (T.getD v (0, 0, 0)) (T' v)) →
    ∀ v, v < s.length → RT R (t + k) ((foldP r s k T).getD v (0, 0, 0)) (foldT (par s) k T' v) := by
  induction k with
  | zero => intro t T T' _ _ _ h v hv; exact h v hv
  | succ k ih =>
    intro t T T' ht hk hl h v hv
    rw [foldP, foldT, show t + (k + 1) = t + 1 + k by omega]
    have hp : par s (k + 1) = (s.getD (k + 1) 0).toNat := by rw [par, if_pos hk]
    have hlt := par_lt Ks (k + 1) (by omega)
    rw [← hp]
    refine ih (t + 1) _ _ (by omega) (by omega) (by simpa using hl) (fun v hv => ?_) v hv
    have hm := sim_merge H (by omega) (h (par s (k + 1)) (by omega)) (h (k + 1) hk)
    by_cases c : v = par s (k + 1)
    · subst c
      have : (T.set (par s (k + 1)) (mergeP r (T.getD (par s (k + 1)) (0, 0, 0)) (T.getD (k + 1) (0, 0, 0)))).getD (par s (k + 1)) (0, 0, 0) = mergeP r (T.getD (par s (k + 1)) (0, 0, 0)) (T.getD (k + 1) (0, 0, 0)) := by
        simp [List.getD_eq_getElem?_getD, List.getElem?_set, show par s (k + 1) < T.length by omega]
      rw [this]
      simp only [setT, if_true]
      exact hm
    · have : ∀ x, (T.set (par s (k + 1)) x).getD v (0, 0, 0) = T.getD v (0, 0, 0) := fun x => by
        have : ¬ par s (k + 1) = v := fun e => c e.symm
        simp [List.getD_eq_getElem?_getD, List.getElem?_set, this]
      rw [this]
      simp only [setT, if_neg c]
      exact ⟨H.up _ _ _ (h v hv).1, H.up _ _ _ (h v hv).2.1, H.up _ _ _ (h v hv).2.2⟩
theorem fill_at (r : Rat) (must mustNot : Nat) (n : Nat) : ∀ (k : Nat) (T : List T3) (v : Nat), v < T.length → (fillT r must mustNot n k T).getD v (0, 0, 0) = if k ≤ v ∧ v < k + n then rowT r must mustNot v else T.getD v (0, 0, 0) := by
  induction n with
  | zero => intro k T v hv; rw [fillT, if_neg (by omega)]
  | succ n ih =>
    intro k T v hv
    rw [fillT, ih _ _ _ (by simpa using hv)]
    by_cases h : k + 1 ≤ v ∧ v < k + 1 + n
    · rw [if_pos h, if_pos (by omega)]
    · rw [if_neg h]
      by_cases c : v = k
      · subst c
        rw [if_pos (by omega)]
        simp [List.getD_eq_getElem?_getD, List.getElem?_set, hv]
      · rw [if_neg (by omega)]
        have : ¬ k = v := fun e => c e.symm
        simp [List.getD_eq_getElem?_getD, List.getElem?_set, this]
/-- The rating of a whole shore follows the sum over all sets. -/
theorem whole_sim {s : List Int} (H : Sim r K pk R s.length) (Ks : OkS s) (must mustNot : Nat) :
    R s.length (wholeV r must mustNot s) (sumL (fun S => if allN (okS (par s) (fun v => must.testBit v) (fun v => mustNot.testBit v) S) s.length then costN pk S s.length else zero) (asc 0 s.length)) := by
  have hpos := Ks.pos
  have h10 := Ks.le
  obtain ⟨n, hn⟩ : ∃ n, s.length = n + 1 := ⟨s.length - 1, by omega⟩
  have hf := sim_fold H Ks n 0 (fillT r must mustNot s.length 0 (List.replicate s.length (0, 0, 0))) (startT pk (fun v => must.testBit v) (fun v => mustNot.testBit v)) (by omega) (by omega) (by rw [fillT_len]; simp) (fun v hv => by
    rw [fill_at _ _ _ _ _ _ _ (by simpa using hv), if_pos (by omega)]
    simp only [rowT, startT, Nat.testBit_eq_decide_div_mod_eq, decide_eq_true_eq]
    refine ⟨?_, H.none, ?_⟩
    · dsimp only; split
      · exact H.none
      · exact H.post v hv
    · dsimp only; split
      · exact H.none
      · exact H.empty) 0 (by omega)
  have hw := whole_sum (par s) (par_lt Ks) pk (fun v => must.testBit v) (fun v => mustNot.testBit v) n
  have hr : R (0 + n) (wholeV r must mustNot s) (add (foldT (par s) n (startT pk (fun v => must.testBit v) (fun v => mustNot.testBit v)) 0).m (foldT (par s) n (startT pk (fun v => must.testBit v) (fun v => mustNot.testBit v)) 0).r) := by
    have e : rateV r must mustNot s = (foldP r s n (fillT r must mustNot s.length 0 (List.replicate s.length (0, 0, 0)))).getD 0 (0, 0, 0) := by
      rw [rateV, tabV, hn, Nat.add_sub_cancel]
    rw [wholeV, e]
    exact H.o _ _ _ _ _ (by omega) hf.1 hf.2.1
  rw [hn, ← hw]
  rw [Nat.zero_add] at hr
  exact H.up _ _ _ hr

/-! ### What is least -/
def RMin (t : Nat) (x : Int) (y : MinP) : Prop := match y with
  | some c => x = (c : Int) ∧ c ≤ 20 * 2 ^ t
  | none => 1048576 ≤ x ∧ x ≤ 1048576 * 2 ^ t
def minR (g : Nat) (cap : List LV) (price : Nat → Nat) : Rat := ⟨g, cap, fun i => (price i : Int), 0, n_post_priced_1, fun x y => IntKind.i64.wrap (x + y), n_post_priced_2, fun x y => if y < x then y else x, 1048576⟩
theorem pow_le {t : Nat} (h : t < 12) : 2 ^ t ≤ 2048 := Nat.pow_le_pow_right (n := 2) (by omega) (show t ≤ 11 by omega)
theorem sim_min (g : Nat) (cap : List LV) (price : Nat → Nat) (n : Nat) (hp : ∀ i, i < n → price i ≤ 20) : Sim (minR g cap price) MinP (fun i => some (price i)) RMin n where
  up t x y h := by
    have e : 2 ^ (t + 1) = 2 * 2 ^ t := by rw [Nat.pow_succ, Nat.mul_comm]
    have e' : (2 : Int) ^ (t + 1) = 2 * 2 ^ t := by rw [Int.pow_succ, Int.mul_comm]
    have : (0 : Int) ≤ 2 ^ t := Int.le_of_lt (Int.pow_pos (by omega))
    cases y <;> simp only [RMin, e, e'] at h ⊢ <;> omega
  j t x y x' y' ht h h' := by
    have e : 2 ^ (t + 1) = 2 * 2 ^ t := by rw [Nat.pow_succ, Nat.mul_comm]
    have e' : (2 : Int) ^ (t + 1) = 2 * 2 ^ t := by rw [Int.pow_succ, Int.mul_comm]
    have hb := pow_le (show t < 12 by omega)
    have hc : ((2 ^ t : Nat) : Int) = (2 : Int) ^ t := by simp
    have hw : IntKind.i64.wrap (x + x') = x + x' := by
      apply wrap_in
      cases y <;> cases y' <;> simp only [RMin] at h h' <;> omega
    show RMin (t + 1) (IntKind.i64.wrap (x + x')) (MinP.mul y y')
    rw [hw]
    cases y <;> cases y' <;> simp only [RMin, MinP.mul, e, e'] at h h' ⊢ <;> omega
  o t x y x' y' ht h h' := by
    have hb := pow_le ht
    have hc : ((2 ^ t : Nat) : Int) = (2 : Int) ^ t := by simp
    show RMin t (if x' < x then x' else x) (MinP.add y y')
    cases y <;> cases y' <;> simp only [RMin, MinP.add] at h h' ⊢ <;> split <;> omega
  post i hi := ⟨rfl, by have := hp i hi; simpa using this⟩
  none := by simp [RMin, minR, SR.zero]
  empty := by simp [RMin, minR, SR.one]
theorem wh_eq {s : List Int} (Ks : OkS s) (g : Nat) (cap : List LV) (price : Nat → Nat) (hp : ∀ i, i < s.length → price i ≤ 20) (must mustNot : Nat) :
    RMin s.length (wholeV (minR g cap price) must mustNot s) (wh (par s) s.length price (fun v => must.testBit v) (fun v => mustNot.testBit v)) := by
  have h := whole_sim (sim_min g cap price s.length hp) Ks must mustNot
  have e : sumL (K := MinP) (fun S => if allN (okS (par s) (fun v => must.testBit v) (fun v => mustNot.testBit v) S) s.length then costN (fun i => (some (price i) : MinP)) S s.length else zero) (asc 0 s.length) = wh (par s) s.length price (fun v => must.testBit v) (fun v => mustNot.testBit v) := by
    unfold wh
    refine sumL_congr _ _ _ fun S hS => ?_
    rw [costN_minp, cst_cost price _ S hS]
    rfl
  rw [e] at h
  exact h

/-! ### How many -/
theorem wrap_dvd (n : Int) : (18446744073709551616 : Int) ∣ IntKind.i64.wrap n - n := by
  simp only [IntKind.wrap, IntKind.bits, IntKind.signed, Bool.true_and, decide_eq_true_eq, show (2 : Int) ^ 64 = 18446744073709551616 from rfl, show (2 : Int) ^ (64 - 1) = 9223372036854775808 from rfl]
  split <;> omega
def RCnt (_ : Nat) (x : Int) (y : Nat) : Prop := (18446744073709551616 : Int) ∣ x - (y : Int)
def cntR : Rat := ⟨n_post_same, [], fun _ => 1, 1, n_post_Count_1, fun x y => IntKind.i64.wrap (x * y), n_post_Count_2, fun x y => IntKind.i64.wrap (x + y), 0⟩
theorem sim_cnt (n : Nat) : Sim cntR Nat (fun _ => 1) RCnt n where
  up t x y h := h
  j t x y x' y' ht h h' := by
    show (18446744073709551616 : Int) ∣ IntKind.i64.wrap (x * x') - ((y * y' : Nat) : Int)
    have e : IntKind.i64.wrap (x * x') - ((y * y' : Nat) : Int) = (IntKind.i64.wrap (x * x') - x * x') + ((x - y) * x' + y * (x' - y')) := by
      rw [Int.natCast_mul, Int.sub_mul, Int.mul_sub]; omega
    rw [e]
    exact Int.dvd_add (wrap_dvd _) (Int.dvd_add (Int.dvd_mul_of_dvd_left h) (Int.dvd_mul_of_dvd_right h'))
  o t x y x' y' ht h h' := by
    show (18446744073709551616 : Int) ∣ IntKind.i64.wrap (x + x') - ((y + y' : Nat) : Int)
    have := wrap_dvd (x + x')
    simp only [RCnt] at h h'
    omega
  post i hi := by show (18446744073709551616 : Int) ∣ _; simp [cntR]
  none := by show (18446744073709551616 : Int) ∣ _; simp [cntR, SR.zero]
  empty := by show (18446744073709551616 : Int) ∣ _; simp [cntR, SR.one]
theorem wrap_range (n : Int) : -9223372036854775808 ≤ IntKind.i64.wrap n ∧ IntKind.i64.wrap n ≤ 9223372036854775807 := by
  simp only [IntKind.wrap, IntKind.bits, IntKind.signed, Bool.true_and, decide_eq_true_eq, show (2 : Int) ^ 64 = 18446744073709551616 from rfl, show (2 : Int) ^ (64 - 1) = 9223372036854775808 from rfl]
  split <;> omega
theorem asc_length (d : Nat) : ∀ i, (asc i d).length = 2 ^ d := by
  induction d with
  | zero => intro i; rfl
  | succ d ih =>
    intro i
    have h := ih (i + 1)
    have hp : 0 < 2 ^ d := Nat.pow_pos (by omega)
    simp only [asc, List.length_cons, List.length_append, List.length_map, List.length_tail, h, Nat.pow_succ]
    omega
/-- All posts that guard are counted. -/
theorem count_eq {s : List Int} (Ks : OkS s) : wholeV cntR 0 0 s = (((asc 0 s.length).filter (dom (par s) s.length)).length : Nat) := by
  have h := whole_sim (sim_cnt s.length) Ks 0 0
  have e : sumL (K := Nat) (fun S => if allN (okS (par s) (fun v => (0 : Nat).testBit v) (fun v => (0 : Nat).testBit v) S) s.length then costN (fun _ => (1 : Nat)) S s.length else zero) (asc 0 s.length) = ((asc 0 s.length).filter (dom (par s) s.length)).length := by
    rw [← sum_count]
    refine sumL_congr _ _ _ fun S hS => ?_
    have e1 : (fun v => (0 : Nat).testBit v) = fun _ => false := by funext v; simp
    rw [e1]
    have e2 : ∀ k, costN (fun _ => (1 : Nat)) S k = 1 := by
      intro k
      unfold costN
      induction k with
      | zero => rfl
      | succ k ih => simp only [prodN, ih]; split <;> rfl
    rw [e2]
    rfl
  rw [e] at h
  have hle : ((asc 0 s.length).filter (dom (par s) s.length)).length ≤ 1024 := by
    refine Nat.le_trans (List.length_filter_le _ _) ?_
    rw [asc_length]
    exact Nat.pow_le_pow_right (n := 2) (by omega) Ks.le
  have hr := wrap_range ((rateV cntR 0 0 s).1 + (rateV cntR 0 0 s).2.1)
  change _ ≤ wholeV cntR 0 0 s ∧ wholeV cntR 0 0 s ≤ _ at hr
  change (18446744073709551616 : Int) ∣ _ at h
  omega
end Go.Am.Post

