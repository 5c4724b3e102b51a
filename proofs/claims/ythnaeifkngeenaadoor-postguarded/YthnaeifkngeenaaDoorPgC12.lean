/-
  What functions of chapter 12 compute, 12: the fewest and the cheapest posts, the program's and the reference's.
-/
import Derived.Test.YthnaeifkngeenaaDoorPgC9
set_option linter.unusedVariables false
set_option linter.unusedSimpArgs false
set_option maxRecDepth 10000
namespace Go.Am.Post
open Go.Am.G

end Go.Am.Post

