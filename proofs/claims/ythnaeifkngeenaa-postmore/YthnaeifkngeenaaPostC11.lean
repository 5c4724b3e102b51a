/-
  What functions of chapter 12 compute, 11: the reference's lists that guard, and the smallest ones.
-/
import Derived.Test.YthnaeifkngeenaaPostC9
set_option linter.unusedVariables false
set_option linter.unusedSimpArgs false
set_option maxRecDepth 10000
namespace Go.Am.Post
open Go.Am.G

/-- All posts that guard, in ascending order. -/
def gs (s : List Int) : List (List Nat) := (asc 0 s.length).filter (grdB s)
end Go.Am.Post

