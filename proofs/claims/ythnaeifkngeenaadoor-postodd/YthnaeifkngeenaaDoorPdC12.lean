/-
  What functions of chapter 12 compute, 12: the fewest and the cheapest posts, the program's and the reference's.
-/
import Derived.Test.YthnaeifkngeenaaDoorPdC9
set_option linter.unusedVariables false
set_option linter.unusedSimpArgs false
set_option maxRecDepth 10000
namespace Go.Am.Post
open Go.Am.G

theorem cost_one (S : List Nat) : cost (fun _ => 1) S = S.length := by
  induction S with
  | nil => rfl
  | cons a r ih => simp only [cost, List.map_cons, List.sum_cons, List.length_cons] at *; omega
/-- The least number of posts. -/
theorem few_min {s : List Int} (K : OkS s) : (∀ l ∈ gs s, bestC s (fun _ => 1) ≤ l.length) ∧ ∃ l ∈ gs s, l.length = bestC s (fun _ => 1) := by
  have h := (wh_some _ _ _ _ _ _).1 (best_ok s (fun _ => 1))
  rw [gs_dom K]
  simp only [List.mem_filter]
  constructor
  · rintro l ⟨h1, h2⟩
    have := h.2 l h1 ⟨h2, by simp, by simp⟩
    rwa [cost_one] at this
  · obtain ⟨⟨S, h1, ⟨h2, _⟩, h3⟩, _⟩ := h
    exact ⟨S, ⟨h1, h2⟩, by rw [← cost_one]; exact h3⟩
def smallS (s : List Int) : List (List Nat) := (asc 0 s.length).filter (goodC (par s) s.length (fun _ => 1) (bestC s (fun _ => 1)))
end Go.Am.Post

