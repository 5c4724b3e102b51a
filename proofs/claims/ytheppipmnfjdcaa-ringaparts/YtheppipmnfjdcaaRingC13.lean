/-
  What functions of chapter 04 compute, 13: what is sure, as the reference says; it is the same.
-/
import Derived.Test.YtheppipmnfjdcaaRingC10
set_option linter.unusedVariables false
set_option linter.unusedSimpArgs false
set_option maxRecDepth 10000
namespace Go.Am.Ring
open Go.Am.G

end Go.Am.Ring

