import Derived.Test.YtheppipmnfjdcaaRingC22
/-
  What functions of chapter 04 compute, 24: the program's rings: the walk, and all of it.
-/
set_option linter.unusedVariables false
set_option linter.unusedSimpArgs false
set_option maxRecDepth 10000
namespace Go.Am.Ring
open Go.Am.G

end Go.Am.Ring

/-
  What functions of chapter 04 compute, 25: the program's rings, for any visitor.
-/
set_option linter.unusedVariables false
set_option linter.unusedSimpArgs false
set_option maxRecDepth 10000
namespace Go.Am.Ring
open Go.Am.G

end Go.Am.Ring

/-
  What functions of chapter 04 compute, 26: the shortest ring, of the program.
-/
set_option linter.unusedVariables false
set_option linter.unusedSimpArgs false
set_option maxRecDepth 10000
namespace Go.Am.Ring
open Go.Am.G

end Go.Am.Ring


