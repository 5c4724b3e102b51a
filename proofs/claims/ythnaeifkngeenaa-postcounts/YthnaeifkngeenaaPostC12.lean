/-
  What functions of chapter 12 compute, 12: the fewest and the cheapest posts, the program's and the reference's.
-/
import Derived.Test.YthnaeifkngeenaaPostC11
set_option linter.unusedVariables false
set_option linter.unusedSimpArgs false
set_option maxRecDepth 10000
namespace Go.Am.Post
open Go.Am.G

theorem cost_one (S : List Nat) : cost (fun _ => 1) S = S.length := by
  induction S with
  | nil => rfl
  | cons a r ih => simp only [cost, List.map_cons, List.sum_cons, List.length_cons] at *; omega
/-- The least number of posts. -/
theorem few_min {s : List Int} (K : OkS s) : (∀ l ∈ gs s, bestC s (fun _ => 1) ≤ l.length) ∧ ∃ l ∈ gs s, l.length = bestC s (fun _ => 1) := by
  have h := (wh_some _ _ _ _ _ _).1 (best_ok s (fun _ => 1))
  rw [gs_dom K]
  simp only [List.mem_filter]
  constructor
  · rintro l ⟨h1, h2⟩
    have := h.2 l h1 ⟨h2, by simp, by simp⟩
    rwa [cost_one] at this
  · obtain ⟨⟨S, h1, ⟨h2, _⟩, h3⟩, _⟩ := h
    exact ⟨S, ⟨h1, h2⟩, by rw [← cost_one]; exact h3⟩
def smallS (s : List Int) : List (List Nat) := (asc 0 s.length).filter (goodC (par s) s.length (fun _ => 1) (bestC s (fun _ => 1)))
theorem smF_gs {s : List Int} (K : OkS s) : smF [] (gs s) = smallS s := by
  obtain ⟨h1, h2⟩ := few_min K
  rw [smF_min _ _ h1 h2, gs_dom K, List.filter_filter, smallS]
  refine List.filter_congr fun S _ => ?_
  rw [goodC, cost_one, Bool.and_comm]
theorem smallS_head (s : List Int) : ∃ r, smallS s = firstS s (fun _ => 1) :: r := by
  have h := firstS_find s (fun _ => 1)
  rw [← List.head?_filter] at h
  change (smallS s).head? = _ at h
  cases hs : smallS s with
  | nil => rw [hs] at h; cases h
  | cons a r => rw [hs] at h; exact ⟨r, by rw [Option.some.inj h]⟩
theorem small_gs (nl ex : Bool) (sz : Nat) {s : List Int} (K : OkS s) : ∃ a b a' b', ∀ m, clF LP n_ref12_guarding [IL nl ex sz s] m = some (.P, .lst a b 1 (gs s).length (rowsL (gs s)), m) ∧ clF LP n_ref12_smallest [.lst a b 1 (gs s).length (rowsL (gs s))] m = some (.P, .lst a' b' 1 (smallS s).length (rowsL (smallS s)), m) := by
  obtain ⟨a, b, h1⟩ := guarding_c nl ex sz K
  have hl := gs_len s K.le
  obtain ⟨r, hr⟩ := smallS_head s
  obtain ⟨a', b', h2⟩ := smallest_c a b (gs s) (by omega) (by rw [smF_gs K, hr]; simp)
  rw [smF_gs K] at h2
  exact ⟨a, b, a', b', fun m => ⟨h1 m, h2 m⟩⟩
end Go.Am.Post

