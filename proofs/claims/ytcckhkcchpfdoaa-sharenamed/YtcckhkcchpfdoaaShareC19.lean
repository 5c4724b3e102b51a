import Derived.Test.YtcckhkcchpfdoaaShareC17
set_option linter.unusedVariables false
set_option linter.unusedSimpArgs false
set_option maxRecDepth 10000
namespace Go.Am.Share
end Go.Am.Share
set_option linter.unusedVariables false
set_option linter.unusedSimpArgs false
set_option maxRecDepth 10000
namespace Go.Am.Share
theorem DOk.own {rs : List Row} {o : List Int} (D : DOk rs o) : 0 ≤ ownS (vals rs) o ∧ ownS (vals rs) o ≤ 480 := by
  have h6 := D.le6
  refine ownS_le ?_ ?_ (by rw [vals_length]; exact D.le4)
  · intro i hi
    rw [vals_length] at hi
    rw [vals_at rs i hi]; exact D.ok i hi
  · intro i hi
    rw [vals_length] at hi
    rw [vals_at rs i hi,← D.len i hi]; exact h6
end Go.Am.Share
set_option linter.unusedVariables false
set_option linter.unusedSimpArgs false
set_option maxRecDepth 10000
namespace Go.Am.Share
end Go.Am.Share
set_option linter.unusedVariables false
set_option linter.unusedSimpArgs false
set_option maxRecDepth 10000
namespace Go.Am.Share
end Go.Am.Share
