/-
  What functions of chapter 12 compute, 4: Hand; lists of places; numbers in common.
-/
import Derived.Test.YthnaeifkngeenaaPostC3
import Derived.Test.YthnaeifkngeenaaPostC14
set_option linter.unusedVariables false
set_option linter.unusedSimpArgs false
set_option maxRecDepth 10000
namespace Go.Am.Post
open Go.Am.G

end Go.Am.Post

