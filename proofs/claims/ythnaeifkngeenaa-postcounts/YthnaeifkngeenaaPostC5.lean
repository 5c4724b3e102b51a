/-
  What functions of chapter 12 compute, 5: posts that guard; places that are apart.
-/
import Derived.Test.YthnaeifkngeenaaPostC4
set_option linter.unusedVariables false
set_option linter.unusedSimpArgs false
set_option maxRecDepth 10000
namespace Go.Am.Post
open Go.Am.G

/-- What is at hand, a bit for each, place by place. -/
def hd (s : List Int) (v : Nat) : Nat := (handsV s).getD v 0
/-! ### Guards -/
def grdB (s : List Int) (q : List Nat) : Bool := (List.range s.length).all fun v => q.any fun u => nb s v u
end Go.Am.Post

