/-
  Forms and finds, in plain: the table of the fewest contradicted finds, and of how many orders; by all ways of going on.
-/
import Derived.Test.YtheppipmnfjdcaaRingC3
set_option linter.unusedVariables false
set_option linter.unusedSimpArgs false
namespace Go.Am.Ring

/-- How many finds are contradicted if a form comes behind some. -/
def costN (P : List (Nat × Nat)) (f done : Nat) : Nat := P.countP fun p => p.1 == f && done.testBit p.2
def sumC (P : List (Nat × Nat)) (f done : Nat) : Nat → Nat
  | 0 => 0
  | k + 1 => sumC P f done k + if done.testBit k then P.count (f, k) else 0
theorem sumC_cons (a : Nat × Nat) (P : List (Nat × Nat)) (f done : Nat) : ∀ k, sumC (a :: P) f done k = sumC P f done k + if a.1 = f ∧ a.2 < k ∧ done.testBit a.2 = true then 1 else 0
  | 0 => by simp [sumC]
  | k + 1 => by
    rw [sumC, sumC, sumC_cons a P f done k, List.count_cons]
    obtain ⟨x, y⟩ := a
    by_cases c1 : x = f
    · subst c1
      by_cases c2 : y = k
      · subst c2
        cases hb : done.testBit y <;> simp [hb]
        omega
      · have e : y < k + 1 ↔ y < k := by omega
        have e2 : ((x, y) == (x, k)) = false := by simp [c2]
        simp only [e, e2]
        simp
        omega
    · have e2 : ((x, y) == (f, k)) = false := by simp [c1]
      simp only [e2, c1]
      simp
theorem sumC_cost (f done n : Nat) : ∀ (P : List (Nat × Nat)), (∀ p ∈ P, p.2 < n) → sumC P f done n = costN P f done
  | [], _ => by
    have : ∀ k, sumC [] f done k = 0 := by
      intro k
      induction k with
      | zero => rfl
      | succ k ih => simp [sumC, ih]
    rw [this]; rfl
  | a :: P, h => by
    have h1 := h a (by simp)
    rw [sumC_cons, sumC_cost f done n P fun p hp => h p (by simp [hp])]
    unfold costN
    rw [List.countP_cons]
    simp [h1]
theorem costN_le (P : List (Nat × Nat)) (f done : Nat) : costN P f done ≤ P.length := List.countP_le_length

/-! ### What is left -/
def leftN (n done : Nat) : Nat := (List.range n).countP fun f => !done.testBit f
theorem leftN_succ (n done : Nat) : leftN (n + 1) done = leftN n done + if done.testBit n then 0 else 1 := by
  unfold leftN
  rw [List.range_succ, List.countP_append]
  cases h : done.testBit n <;> simp [h]
theorem or_bit (done f i : Nat) : (done ||| 2 ^ f).testBit i = (done.testBit i || decide (f = i)) := by
  rw [Nat.testBit_or, Nat.testBit_two_pow]
theorem leftN_next (done f : Nat) (hb : done.testBit f = false) : ∀ n, f < n → leftN n (done ||| 2 ^ f) + 1 = leftN n done
  | 0, h => by omega
  | n + 1, h => by
    rw [leftN_succ, leftN_succ, or_bit]
    by_cases c : f = n
    · subst c
      have : ∀ k, k ≤ f → leftN k (done ||| 2 ^ f) = leftN k done := by
        intro k
        induction k with
        | zero => intro _; rfl
        | succ k ih =>
          intro hk
          rw [leftN_succ, leftN_succ, or_bit, ih (by omega)]
          simp [show ¬ f = k by omega]
      rw [this f (Nat.le_refl _), hb]
      simp
    · have := leftN_next done f hb n (by omega)
      simp only [c, decide_false, Bool.or_false]
      omega
theorem leftN_zero (n done : Nat) (hd : done < 2 ^ n) : leftN n done = 0 ↔ done = 2 ^ n - 1 := by
  constructor
  · intro h
    apply Nat.eq_of_testBit_eq
    intro i
    rw [Nat.testBit_two_pow_sub_one]
    by_cases c : i < n
    · unfold leftN at h
      rw [List.countP_eq_zero] at h
      have := h i (List.mem_range.2 c)
      simpa [c] using this
    · rw [Nat.testBit_lt_two_pow (Nat.lt_of_lt_of_le hd (Nat.pow_le_pow_right (by omega) (by omega)))]
      simp [c]
  · rintro rfl
    unfold leftN
    rw [List.countP_eq_zero]
    intro i hi
    simp [Nat.testBit_two_pow_sub_one, List.mem_range.1 hi]
theorem leftN_le (n done : Nat) : leftN n done ≤ n := by
  have := List.countP_le_length (p := fun f => !done.testBit f) (l := List.range n)
  rw [List.length_range] at this
  exact this
theorem next_eq (done f : Nat) : (done ||| 2 ^ f = done) ↔ done.testBit f = true := by
  constructor
  · intro h
    have := or_bit done f f
    rw [h] at this
    simpa using this
  · intro h
    apply Nat.eq_of_testBit_eq
    intro i
    rw [or_bit]
    by_cases c : f = i
    · subst c; simp [h]
    · simp [c]
theorem next_lt (done f n : Nat) (hd : done < 2 ^ n) (hf : f < n) : done ||| 2 ^ f < 2 ^ n := Nat.or_lt_two_pow hd (Nat.pow_lt_pow_right (by omega) hf)
theorem next_gt (done f : Nat) (hb : done.testBit f = false) : done < done ||| 2 ^ f := by
  have h1 : done ≤ done ||| 2 ^ f := Nat.left_le_or
  have h2 : done ||| 2 ^ f ≠ done := fun c => by rw [(next_eq done f).1 c] at hb; cases hb
  omega

/-! ### The table -/
def anyM (_ _ : Nat) : Bool := true
def fstep (may : Nat → Nat → Bool) (P : List (Nat × Nat)) (done : Nat) (go : Nat → Nat × Nat) (acc : Nat × Nat) (f : Nat) : Nat × Nat :=
  if done.testBit f || !may f done then acc else
    if costN P f done + (go (done ||| 2 ^ f)).1 < acc.1 then (costN P f done + (go (done ||| 2 ^ f)).1, (go (done ||| 2 ^ f)).2)
    else if costN P f done + (go (done ||| 2 ^ f)).1 = acc.1 then (acc.1, acc.2 + (go (done ||| 2 ^ f)).2) else acc
def fwU (may : Nat → Nat → Bool) (P : List (Nat × Nat)) (n : Nat) : Nat → Nat → Nat × Nat
  | 0, _ => (0, 1)
  | u + 1, done => (List.range n).foldl (fstep may P done (fwU may P n u)) (13, 0)
def fwD (may : Nat → Nat → Bool) (P : List (Nat × Nat)) (n done : Nat) : Nat × Nat := fwU may P n (leftN n done) done
theorem fwD_all (may : Nat → Nat → Bool) (P : List (Nat × Nat)) (n : Nat) : fwD may P n (2 ^ n - 1) = (0, 1) := by
  unfold fwD
  rw [(leftN_zero n (2 ^ n - 1) (by have := Nat.two_pow_pos n; omega)).2 rfl]
  rfl
theorem foldl_ext {α β : Type} (g h : β → α → β) : ∀ (l : List α) (b : β), (∀ b, ∀ a ∈ l, g b a = h b a) → l.foldl g b = l.foldl h b
  | [], b, _ => rfl
  | a :: l, b, e => by
    rw [List.foldl_cons, List.foldl_cons, e b a (by simp)]
    exact foldl_ext g h l _ fun b a ha => e b a (by simp [ha])
theorem fwD_eq (may : Nat → Nat → Bool) (P : List (Nat × Nat)) (n done : Nat) (hd : done < 2 ^ n - 1) : fwD may P n done = (List.range n).foldl (fstep may P done (fwD may P n)) (13, 0) := by
  unfold fwD
  have h0 : leftN n done ≠ 0 := fun c => by have := (leftN_zero n done (by omega)).1 c; omega
  obtain ⟨u, hu⟩ : ∃ u, leftN n done = u + 1 := ⟨leftN n done - 1, by omega⟩
  rw [hu, fwU]
  apply foldl_ext
  intro acc f hf
  have hf := List.mem_range.1 hf
  unfold fstep
  cases hb : done.testBit f
  · have := leftN_next done f hb n hf
    have e : leftN n (done ||| 2 ^ f) = u := by omega
    simp only [fwD, e]
  · simp
theorem fold_le (may : Nat → Nat → Bool) (P : List (Nat × Nat)) (done : Nat) (go : Nat → Nat × Nat) (B : Nat) (hgo : ∀ d, (go d).2 ≤ B) : ∀ (l : List Nat) (acc : Nat × Nat), (l.foldl (fstep may P done go) acc).1 ≤ acc.1 ∧ (l.foldl (fstep may P done go) acc).2 ≤ acc.2 + l.length * B
  | [], acc => by simp
  | f :: l, acc => by
    have ih := fold_le may P done go B hgo l (fstep may P done go acc f)
    have h1 : (fstep may P done go acc f).1 ≤ acc.1 ∧ (fstep may P done go acc f).2 ≤ acc.2 + B := by
      unfold fstep
      have := hgo (done ||| 2 ^ f)
      split
      · exact ⟨Nat.le_refl _, by omega⟩
      · split
        · rename_i h; exact ⟨Nat.le_of_lt h, by simp only; omega⟩
        · split
          · exact ⟨Nat.le_refl _, by simp only; omega⟩
          · exact ⟨Nat.le_refl _, by omega⟩
    rw [List.foldl_cons, List.length_cons, Nat.add_mul]
    exact ⟨by omega, by omega⟩
theorem fwU_le (may : Nat → Nat → Bool) (P : List (Nat × Nat)) (n : Nat) (hn : n ≤ 6) : ∀ (u done : Nat), (fwU may P n u done).1 ≤ 13 ∧ (fwU may P n u done).2 ≤ 6 ^ u
  | 0, done => by simp [fwU]
  | u + 1, done => by
    have h := fold_le may P done (fwU may P n u) (6 ^ u) (fun d => (fwU_le may P n hn u d).2) (List.range n) (13, 0)
    rw [fwU]
    simp only [List.length_range, Nat.zero_add] at h
    refine ⟨h.1, Nat.le_trans h.2 ?_⟩
    rw [Nat.pow_succ, Nat.mul_comm]
    exact Nat.mul_le_mul_left _ hn
theorem fwD_le (may : Nat → Nat → Bool) (P : List (Nat × Nat)) (n : Nat) (hn : n ≤ 6) (done : Nat) : (fwD may P n done).1 ≤ 13 ∧ (fwD may P n done).2 ≤ 46656 := by
  have h := fwU_le may P n hn (leftN n done) done
  refine ⟨h.1, Nat.le_trans h.2 ?_⟩
  have h2 : 6 ^ leftN n done ≤ 6 ^ 6 := Nat.pow_le_pow_right (by omega) (Nat.le_trans (leftN_le n done) hn)
  have h3 : (6 : Nat) ^ 6 = 46656 := by decide
  rwa [h3] at h2
end Go.Am.Ring

