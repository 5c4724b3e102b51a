import Derived.Test.YtheppipmnfjdcaaRingC16
/-
  What functions of chapter 04 compute, 18: finds but some, and the reference's strike.
-/
set_option linter.unusedVariables false
set_option linter.unusedSimpArgs false
set_option maxRecDepth 10000
namespace Go.Am.Ring
open Go.Am.G

end Go.Am.Ring

/-
  Forms and finds, in plain: striking one by one gives the first of the smallest lists.
-/
set_option linter.unusedVariables false
set_option linter.unusedSimpArgs false
namespace Go.Am.Ring

end Go.Am.Ring


