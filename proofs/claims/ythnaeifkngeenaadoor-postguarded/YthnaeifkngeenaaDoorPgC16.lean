/-
  What functions of chapter 12 compute, 16: places that are always, or never, in the smallest lists; the law of counts.
-/
import Derived.Test.YthnaeifkngeenaaDoorPgC15
import Derived.Test.YthnaeifkngeenaaDoorPgC13
set_option linter.unusedVariables false
set_option linter.unusedSimpArgs false
set_option maxRecDepth 10000
namespace Go.Am.Post
open Go.Am.G

structure AskOk (g : Nat) (fa fb : Nat → Nat) : Prop where
  la : ∀ x, x < 1024 → fa x < 1024
  lb : ∀ x, x < 1024 → fb x < 1024
  c : ∀ (x : Nat) (m : LMem) (j : Nat), m[j]? = some ⟨pc n_post_same [] 0 0, true⟩ → clF LP g [.ptr j 0 7, .int .u64 (x : Int)] m = some (.W, .tup [], m.set j ⟨pc n_post_same [] (fa x) (fb x), true⟩)
end Go.Am.Post

