import Derived.Test.YtcckhkcchpfdoaaShareD17
/-
  What functions of chapter 07 compute, 21: the reference turns a ring.
-/
set_option linter.unusedVariables false
set_option linter.unusedSimpArgs false
set_option maxRecDepth 10000
namespace Go.Am.Share
theorem enI_ne (V : List (List Int)) (o : List Int) (j : Nat) : enI V o j ≠ (j : Int) := by
  intro c
  rcases fstI_cases (fun i => decide (0 < eW V o i j)) V.length 0 with ⟨a, _⟩ | ⟨i, a, _, _, d⟩
  · unfold enI at c; omega
  · unfold enI at c
    obtain rfl : i = j := by omega
    simp [eW] at d
end Go.Am.Share

/-
  What functions of chapter 07 compute, 22: the reference's divisions one after the other.
-/
set_option linter.unusedVariables false
set_option linter.unusedSimpArgs false
set_option maxRecDepth 10000
namespace Go.Am.Share
end Go.Am.Share


