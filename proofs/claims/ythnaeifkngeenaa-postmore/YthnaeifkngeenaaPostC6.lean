/-
  What functions of chapter 12 compute, 6: posts that guard and places that are apart, the program's and the reference's; the law of hands.
-/
import Derived.Test.YthnaeifkngeenaaPostC5
set_option linter.unusedVariables false
set_option linter.unusedSimpArgs false
set_option maxRecDepth 10000
namespace Go.Am.Post
open Go.Am.G

/-! ### Apart -/
theorem hd_lt {s : List Int} (K : OkS s) (v : Nat) : hd s v < 1024 := hands_lt K v
end Go.Am.Post

