/-
  What functions of chapter 04 compute, 18: finds but some, and the reference's strike.
-/
import Derived.Test.YtheppipmnfjdcaaRingC16
set_option linter.unusedVariables false
set_option linter.unusedSimpArgs false
set_option maxRecDepth 10000
namespace Go.Am.Ring
open Go.Am.G

end Go.Am.Ring

