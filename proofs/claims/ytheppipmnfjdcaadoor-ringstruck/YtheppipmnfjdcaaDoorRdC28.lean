/-
  What functions of chapter 04 compute, 28: which lists are rings, of the program.
-/
import Derived.Test.YtheppipmnfjdcaaDoorRdP9
set_option linter.unusedVariables false
set_option linter.unusedSimpArgs false
set_option maxRecDepth 10000
namespace Go.Am.Ring
open Go.Am.G
theorem chain_iff {P : List (Nat × Nat)} : ∀ (R : List Nat),Chain P R ↔ ∀ k (h : k + 1 < R.length),en P R[k] = st P R[k + 1]
  | [] => by simp [Chain]
  | [x] => by simp [Chain]
  | x :: y :: R => by
    have ih := chain_iff (P := P) (y :: R)
    have e : Chain P (x :: y :: R) ↔ en P x = st P y ∧ Chain P (y :: R) := Iff.rfl
    rw [e,ih]
    constructor
    · rintro ⟨h1,h2⟩ k h
      cases k with
      | zero => exact h1
      | succ k => exact h2 k (by simpa using h)
    · intro h
      exact ⟨h 0 (by simp),fun k hk => h (k + 1) (by simpa using hk)⟩
end Go.Am.Ring
