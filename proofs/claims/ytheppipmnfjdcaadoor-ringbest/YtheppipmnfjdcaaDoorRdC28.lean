/-
  What functions of chapter 04 compute, 28: which lists are rings, of the program.
-/
import Derived.Test.YtheppipmnfjdcaaDoorRdP9
set_option linter.unusedVariables false
set_option linter.unusedSimpArgs false
set_option maxRecDepth 10000
namespace Go.Am.Ring
open Go.Am.G
end Go.Am.Ring
