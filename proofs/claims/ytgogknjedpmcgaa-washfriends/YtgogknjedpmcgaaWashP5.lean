/-
  Plain: where things are after any number of tides, and when a thing comes to a place. No statement of the seat is proved here.
-/
import Derived.Test.YtgogknjedpmcgaaWashP2
set_option linter.unusedVariables false
set_option linter.unusedSimpArgs false
namespace Go.Am.Wash

theorem nth_at' (t : List Nat) (i : Nat) (h : i < t.length) : nth t i = t[i] := by rw [nth_getD]; simp [List.getD_eq_getElem?_getD, h]
end Go.Am.Wash

