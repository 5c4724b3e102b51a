/-
  What functions of chapter 04 compute, outright 3: whether finds make no ring, whether a list is a ring, lists compared.
-/
import Derived.Test.YtheppipmnfjdcaaDoorRdP10
import Derived.Test.YtheppipmnfjdcaaDoorRdD1
set_option linter.unusedVariables false
set_option linter.unusedSimpArgs false
set_option maxRecDepth 10000
namespace Go.Am.Ring
open Go.Am.G
end Go.Am.Ring
