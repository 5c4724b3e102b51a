/-
  What functions of chapter 13 compute, 4: the reference's rings; tides one after the other.
-/
import Derived.Test.YtgogknjedpmcgaaWashC2
set_option linter.unusedVariables false
set_option linter.unusedSimpArgs false
set_option maxRecDepth 10000
namespace Go.Am.Wash
open Go.Am.G

/-! ### One tide and then another one -/
def thenN (a b : List Nat) : List Nat := a.map (nth b)
end Go.Am.Wash

