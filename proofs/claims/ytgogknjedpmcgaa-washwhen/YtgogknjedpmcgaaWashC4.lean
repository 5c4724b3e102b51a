/-
  What functions of chapter 13 compute, 4: the reference's rings; tides one after the other.
-/
import Derived.Test.YtgogknjedpmcgaaWashC3
set_option linter.unusedVariables false
set_option linter.unusedSimpArgs false
set_option maxRecDepth 10000
namespace Go.Am.Wash
open Go.Am.G

end Go.Am.Wash

