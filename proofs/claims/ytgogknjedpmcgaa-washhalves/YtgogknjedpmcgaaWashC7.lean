/-
  The law 'WashMoves' over the list machine.
-/
import Derived.Test.YtgogknjedpmcgaaWashC6
import Derived.Test.YtgogknjedpmcgaaWashC6
set_option linter.unusedVariables false
set_option linter.unusedSimpArgs false
set_option maxRecDepth 10000
namespace Go.Am.Wash
open Go.Am.G

end Go.Am.Wash

