import Derived.Test.YtheppipmnfjdcaaRingC10
/-
  What functions of chapter 04 compute, 14: finds turned round.
-/
set_option linter.unusedVariables false
set_option linter.unusedSimpArgs false
set_option maxRecDepth 10000
namespace Go.Am.Ring
open Go.Am.G

end Go.Am.Ring

/-
  What functions of chapter 04 compute, 15: finds turned round, as the reference says.
-/
set_option linter.unusedVariables false
set_option linter.unusedSimpArgs false
set_option maxRecDepth 10000
namespace Go.Am.Ring
open Go.Am.G

end Go.Am.Ring


