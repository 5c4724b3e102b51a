/-
  What functions of chapter 13 compute, 8: two tides.
-/
import Derived.Test.YtgogknjedpmcgaaWashC7
set_option linter.unusedVariables false
set_option linter.unusedSimpArgs false
set_option maxRecDepth 10000
namespace Go.Am.Wash
open Go.Am.G

/-! ### Two tides are checked -/
def bothE (a b : List Int) : Int := if chkT a ≠ 0 then chkT a else if chkT b ≠ 0 then chkT b else if a.length ≠ b.length then 5 else 0
/-- Two tides that were accepted. -/
structure Two (a b : List Nat) : Prop where
  A : Td a
  B : Td b
  len : a.length = b.length
  e : bothE (ci a) (ci b) = 0
theorem Two.lt {a b : List Nat} (W : Two a b) : ∀ x ∈ a, x < b.length := fun x hx => by rw [← W.len]; exact W.A.lt x hx

end Go.Am.Wash

