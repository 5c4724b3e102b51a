/-
  What functions of chapter 12 compute, 13: the most places that are apart; the law of the fewest posts.
-/
import Derived.Test.YthnaeifkngeenaaDoorPgC12
import Derived.Test.YthnaeifkngeenaaDoorPgC15
set_option linter.unusedVariables false
set_option linter.unusedSimpArgs false
set_option maxRecDepth 10000
namespace Go.Am.Post
open Go.Am.G

/-- The variables that the function that counts holds. -/
abbrev mostF : LV := .func n_post_Apart_1 [] [.ptr 0 0 1, .ptr 1 0 1, .ptr 2 0 1]
structure AMem (nl ex : Bool) (sz : Nat) (s : List Int) (m : LMem) : Prop where
  h0 : ∃ b, m[0]? = some ⟨[IL nl ex sz s], b⟩
  h1 : ∃ b, m[1]? = some ⟨[UH (handsV s)], b⟩
  h2 : ∃ b, m[2]? = some ⟨[mostF], b⟩
theorem AMem.len {nl ex : Bool} {sz : Nat} {s : List Int} {m : LMem} (H : AMem nl ex sz s m) : 3 ≤ m.length := by
  obtain ⟨b2, h2⟩ := H.h2
  rw [List.getElem?_eq_some_iff] at h2; have := h2.1; omega
end Go.Am.Post

