/-
  What functions of chapter 04 compute, 27: the shortest ring, of the reference; Index, Contains and Min of lists.
-/
import Derived.Test.YtheppipmnfjdcaaRingC24
import Derived.Test.YtheppipmnfjdcaaRingP5
set_option linter.unusedVariables false
set_option linter.unusedSimpArgs false
set_option maxRecDepth 10000
namespace Go.Am.Ring
open Go.Am.G

end Go.Am.Ring

