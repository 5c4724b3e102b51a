/-
  What functions of chapter 04 compute, 15: finds turned round, as the reference says.
-/
import Derived.Test.YtheppipmnfjdcaaRingC14
set_option linter.unusedVariables false
set_option linter.unusedSimpArgs false
set_option maxRecDepth 10000
namespace Go.Am.Ring
open Go.Am.G

end Go.Am.Ring

