/-
  Plain: the cheapest posts, place by place. No statement of the seat is proved here.
-/
import Derived.Test.YthnaeifkngeenaaPostP3
set_option linter.unusedVariables false
set_option linter.unusedSimpArgs false
namespace Go.Am.Post
open SR
variable (par : Nat → Nat) (n : Nat) (price : Nat → Nat)

def all (n : Nat) : List Nat := List.range n
end Go.Am.Post

