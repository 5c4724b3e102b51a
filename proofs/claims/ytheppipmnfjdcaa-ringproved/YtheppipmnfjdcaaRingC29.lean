/-
  What functions of chapter 04 compute, 29: which lists are rings, of the reference, and the law RingRings.
-/
import Derived.Test.YtheppipmnfjdcaaRingC27
import Derived.Test.YtheppipmnfjdcaaLaw1
set_option linter.unusedVariables false
set_option linter.unusedSimpArgs false
set_option maxRecDepth 10000
namespace Go.Am.Ring
open Go.Am.G

end Go.Am.Ring

