/-
  What functions of chapter 04 compute, 8: the reference's best orders.
-/
import Derived.Test.YtheppipmnfjdcaaRingC6
set_option linter.unusedVariables false
set_option linter.unusedSimpArgs false
set_option maxRecDepth 10000
namespace Go.Am.Ring
open Go.Am.G

end Go.Am.Ring

