import Derived.Test.YthnaeifkngeenaaDoorPgC14
/-
  What functions of chapter 12 compute, 5: posts that guard; places that are apart.
-/
set_option linter.unusedVariables false
set_option linter.unusedSimpArgs false
set_option maxRecDepth 10000
namespace Go.Am.Post
open Go.Am.G

/-- What is at hand, a bit for each, place by place. -/
def hd (s : List Int) (v : Nat) : Nat := (handsV s).getD v 0
theorem and_zero_iff (x y : Nat) : x &&& y = 0 ↔ ∀ i, ¬ (x.testBit i = true ∧ y.testBit i = true) := by
  constructor
  · intro h i c
    have := Nat.testBit_and x y i
    rw [h, Nat.zero_testBit, c.1, c.2] at this
    cases this
  · intro h
    apply Nat.eq_of_testBit_eq
    intro i
    rw [Nat.testBit_and, Nat.zero_testBit]
    have := h i
    cases c1 : x.testBit i <;> cases c2 : y.testBit i <;> simp_all
def maskN : List Nat → Nat → Nat
  | [], a => a
  | p :: r, a => maskN r (a ||| 2 ^ p)
theorem maskN_bit : ∀ (q : List Nat) (a i : Nat), (maskN q a).testBit i = (a.testBit i || decide (i ∈ q))
  | [], a, i => by simp [maskN]
  | p :: r, a, i => by
    rw [maskN, maskN_bit r, Nat.testBit_or, Nat.testBit_two_pow, Bool.or_assoc]
    congr 1
    rw [Bool.eq_iff_iff, Bool.or_eq_true, decide_eq_true_eq, decide_eq_true_eq, decide_eq_true_eq, List.mem_cons]
    constructor
    · rintro (rfl | h)
      · exact .inl rfl
      · exact .inr h
    · rintro (rfl | h)
      · exact .inl rfl
      · exact .inr h
/-! ### Guards -/
def grdB (s : List Int) (q : List Nat) : Bool := (List.range s.length).all fun v => q.any fun u => nb s v u
end Go.Am.Post

/-
  What functions of chapter 12 compute, 6: posts that guard and places that are apart, the program's and the reference's; the law of hands.
-/
set_option linter.unusedVariables false
set_option linter.unusedSimpArgs false
set_option maxRecDepth 10000
namespace Go.Am.Post
open Go.Am.G

theorem asc_lt {n : Nat} {q : List Nat} (h : q ∈ asc 0 n) : ∀ x ∈ q, x < n := fun x hx => by have := ((mem_asc _ _ _).1 h).2 x hx; omega
/-! ### Apart -/
theorem hd_lt {s : List Int} (K : OkS s) (v : Nat) : hd s v < 1024 := hands_lt K v
end Go.Am.Post


