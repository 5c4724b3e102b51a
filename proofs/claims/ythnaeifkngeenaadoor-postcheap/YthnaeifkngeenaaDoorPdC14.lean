import Derived.Test.YthnaeifkngeenaaDoorPdC8
import Derived.Test.YthnaeifkngeenaaDoorPdC3
/-
  What functions of chapter 12 compute, 14: a shore is rated by the fewest posts and how many lists there are.
-/
set_option linter.unusedVariables false
set_option linter.unusedSimpArgs false
set_option maxRecDepth 10000
namespace Go.Am.Post
open Go.Am.G

abbrev Pr2 := Int × Int
abbrev T6 := Pr2 × Pr2 × Pr2
abbrev f2 (x : Pr2) : List LV := [.int .i64 x.1, .int .i64 x.2]
def t6 (x : T6) : List LV := [.int .i64 x.1.1, .int .i64 x.1.2, .int .i64 x.2.1.1, .int .i64 x.2.1.2, .int .i64 x.2.2.1, .int .i64 x.2.2.2]
end Go.Am.Post

/-
  Plain: the most places that are apart, place by place. No statement of the seat is proved here.
-/
set_option linter.unusedVariables false
set_option linter.unusedSimpArgs false
namespace Go.Am.Post
variable (h : Nat → Nat)

end Go.Am.Post


