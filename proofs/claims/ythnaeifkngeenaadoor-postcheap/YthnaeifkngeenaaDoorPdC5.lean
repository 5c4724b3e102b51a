import Derived.Test.YthnaeifkngeenaaDoorPdC4
/-
  What functions of chapter 12 compute, 5: posts that guard; places that are apart.
-/
set_option linter.unusedVariables false
set_option linter.unusedSimpArgs false
set_option maxRecDepth 10000
namespace Go.Am.Post
open Go.Am.G

/-- What is at hand, a bit for each, place by place. -/
def hd (s : List Int) (v : Nat) : Nat := (handsV s).getD v 0
theorem and_zero_iff (x y : Nat) : x &&& y = 0 ↔ ∀ i, ¬ (x.testBit i = true ∧ y.testBit i = true) := by
  constructor
  · intro h i c
    have := Nat.testBit_and x y i
    rw [h, Nat.zero_testBit, c.1, c.2] at this
    cases this
  · intro h
    apply Nat.eq_of_testBit_eq
    intro i
    rw [Nat.testBit_and, Nat.zero_testBit]
    have := h i
    cases c1 : x.testBit i <;> cases c2 : y.testBit i <;> simp_all
def maskN : List Nat → Nat → Nat
  | [], a => a
  | p :: r, a => maskN r (a ||| 2 ^ p)
theorem maskN_bit : ∀ (q : List Nat) (a i : Nat), (maskN q a).testBit i = (a.testBit i || decide (i ∈ q))
  | [], a, i => by simp [maskN]
  | p :: r, a, i => by
    rw [maskN, maskN_bit r, Nat.testBit_or, Nat.testBit_two_pow, Bool.or_assoc]
    congr 1
    rw [Bool.eq_iff_iff, Bool.or_eq_true, decide_eq_true_eq, decide_eq_true_eq, decide_eq_true_eq, List.mem_cons]
    constructor
    · rintro (rfl | h)
      · exact .inl rfl
      · exact .inr h
    · rintro (rfl | h)
      · exact .inl rfl
      · exact .inr h
/-! ### Guards -/
def grdB (s : List Int) (q : List Nat) : Bool := (List.range s.length).all fun v => q.any fun u => nb s v u
theorem grd_mask {s : List Int} (K : OkS s) (q : List Nat) (hq : ∀ x ∈ q, x < s.length) (v : Nat) (hv : v < s.length) : decide (hd s v &&& maskN q 0 = 0) = !(q.any fun u => nb s v u) := by
  rw [Bool.eq_iff_iff, decide_eq_true_eq, and_zero_iff]
  simp only [hd, hands_bit K hv, maskN_bit, Nat.zero_testBit, Bool.false_or, Bool.not_eq_true', List.any_eq_false, Bool.and_eq_true, decide_eq_true_eq]
  constructor
  · intro h u hu c
    exact h u ⟨⟨c, hq u hu⟩, hu⟩
  · rintro h i ⟨⟨h1, h2⟩, h3⟩
    exact h i h3 h1
theorem handsV_eq (s : List Int) : handsV s = (List.range s.length).map (hd s) := by
  apply List.ext_getElem (by simp [handsV_length])
  intro i h1 h2
  simp [hd, List.getD_eq_getElem?_getD, h1]
theorem any_hands {s : List Int} (K : OkS s) (q : List Nat) (hq : ∀ x ∈ q, x < s.length) : ((handsV s).any fun x => decide (x &&& maskN q 0 = 0)) = !grdB s q := by
  rw [handsV_eq, List.any_map, grdB, List.not_all_eq_any_not]
  apply Bool.eq_iff_iff.2
  simp only [List.any_eq_true, List.mem_range, Function.comp]
  constructor
  · rintro ⟨v, hv, h⟩
    rw [grd_mask K q hq v hv] at h
    exact ⟨v, hv, h⟩
  · rintro ⟨v, hv, h⟩
    exact ⟨v, hv, by rw [grd_mask K q hq v hv]; exact h⟩
end Go.Am.Post

/-
  What functions of chapter 12 compute, 6: posts that guard and places that are apart, the program's and the reference's; the law of hands.
-/
set_option linter.unusedVariables false
set_option linter.unusedSimpArgs false
set_option maxRecDepth 10000
namespace Go.Am.Post
open Go.Am.G

theorem asc_lt {n : Nat} {q : List Nat} (h : q ∈ asc 0 n) : ∀ x ∈ q, x < n := fun x hx => by have := ((mem_asc _ _ _).1 h).2 x hx; omega
theorem up_len : ∀ (q : List Nat) (i n : Nat), up i q → (∀ x ∈ q, x < n) → q.length ≤ n - i
  | [], _, _, _, _ => by simp
  | x :: r, i, n, ⟨a, b⟩, h => by
    have := up_len r (x + 1) n b fun y hy => h y (by simp [hy])
    have := h x (by simp)
    simp only [List.length_cons]; omega
theorem asc_len {n : Nat} {q : List Nat} (h : q ∈ asc 0 n) : q.length ≤ n := by
  have := up_len q 0 n ((mem_asc _ _ _).1 h).1 (asc_lt h); omega
end Go.Am.Post


