/-
  THE JOIN, 2: lists of numbers, and lists of lists, that came in.
-/
import Derived.Test.YtgogknjedpmcgaaLaw1
import Derived.ChangeSlices
import Derived.Deep.Matrix
import Derived.OpenShut
set_option linter.unusedVariables false
namespace Go.Am
open Go.ChangeShapes Go.RowKit Go.Deep

end Go.Am

