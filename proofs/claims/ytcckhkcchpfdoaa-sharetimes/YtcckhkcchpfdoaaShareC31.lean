import Derived.Test.YtcckhkcchpfdoaaShareC27
set_option linter.unusedVariables false
set_option linter.unusedSimpArgs false
set_option maxRecDepth 10000
namespace Go.Am.Share
theorem ownL_length (V : List (List Int)) (o : List Int) (k n : Nat) : (ownL V o k n).length = n := by simp [ownL]
end Go.Am.Share
set_option linter.unusedVariables false
set_option linter.unusedSimpArgs false
set_option maxRecDepth 10000
namespace Go.Am.Share
end Go.Am.Share
