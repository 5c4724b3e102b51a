/-
  What functions of chapter 12 compute, 17: places that are always, or never, in the smallest lists; the law of counts.
-/
import Derived.Test.YthnaeifkngeenaaPostC16
set_option linter.unusedVariables false
set_option linter.unusedSimpArgs false
set_option maxRecDepth 10000
namespace Go.Am.Post
open Go.Am.G

end Go.Am.Post

