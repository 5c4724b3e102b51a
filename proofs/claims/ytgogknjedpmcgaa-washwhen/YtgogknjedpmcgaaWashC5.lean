/-
  What functions of chapter 13 compute, 5: where things are, when all is back, when a thing comes to a place.
-/
import Derived.Test.YtgogknjedpmcgaaWashC4
import Derived.Test.YtgogknjedpmcgaaWashP5
set_option linter.unusedVariables false
set_option linter.unusedSimpArgs false
set_option maxRecDepth 10000
namespace Go.Am.Wash
open Go.Am.G

/-- A tide that was accepted. -/
structure Td (t : List Nat) : Prop where
  T : Tide t.length t
  h1 : 1 ≤ t.length
  h7 : t.length ≤ 7
theorem Td.lt {t : List Nat} (D : Td t) : ∀ x ∈ t, x < t.length := D.T.2.2
theorem Td.lt7 {t : List Nat} (D : Td t) : ∀ x ∈ t, x < 7 := fun x hx => by have := D.lt x hx; have := D.h7; omega
theorem td_of {t : List Int} (h : chkT t = 0) : ∃ q : List Nat, t = ci q ∧ Td q := by
  obtain ⟨q, e, h1, h2, h3⟩ := tide_of h
  exact ⟨q, e, h1, h2, h3⟩

end Go.Am.Wash

