/-
  What functions of chapter 13 compute, 10: a tide under names, tides alike; the law of joins.
-/
import Derived.Test.YtgogknjedpmcgaaWashC9
import Derived.Test.YtgogknjedpmcgaaWashC6
set_option linter.unusedVariables false
set_option linter.unusedSimpArgs false
set_option maxRecDepth 10000
set_option maxHeartbeats 1000000
namespace Go.Am.Wash
open Go.Am.G

end Go.Am.Wash

