/-
  What functions of chapter 13 compute, 11: why there is no half.
-/
import Derived.Test.YtgogknjedpmcgaaWashC10
set_option linter.unusedVariables false
set_option linter.unusedSimpArgs false
set_option maxRecDepth 10000
namespace Go.Am.Wash
open Go.Am.G

end Go.Am.Wash

