import Derived.Test.YtcckhkcchpfdoaaShareC3
/-
  What functions of chapter 07 compute, 6: pairs of finders with envy.
-/
set_option linter.unusedVariables false
set_option linter.unusedSimpArgs false
set_option maxRecDepth 10000
namespace Go.Am.Share

structure DOk (rs : List Row) (o : List Int) : Prop where
  pos : 0 < rs.length
  le4 : rs.length ≤ 4
  len : ∀ i (h : i < rs.length), o.length = rs[i].l.length
  ok : ∀ i (h : i < rs.length), Ok20 rs[i].l
  le6 : o.length ≤ 6
theorem vals_at (rs : List Row) (i : Nat) (h : i < rs.length) : (vals rs).getD i [] = rs[i].l := by simp [vals, List.getD_eq_getElem?_getD, List.getElem?_eq_getElem h]
theorem dok_of {rs : List Row} {o : List Int} (h : divE (vals rs) o = 0) : DOk rs o := by
  unfold divE at h
  split at h
  · rename_i h1; exact absurd h h1
  · rename_i h1
    have h1 : chkV (vals rs) = 0 := by simpa using h1
    obtain ⟨k1, k2, k3, k4⟩ := chkV_ok h1
    split at h
    · omega
    · rename_i h2
      have h2 : o.length = ((vals rs).getD 0 []).length := by simpa using h2
      rw [vals_length] at k1 k2
      have hrow : ∀ i (h : i < rs.length), rs[i].l ∈ vals rs := fun i h => List.mem_map.2 ⟨rs[i], List.getElem_mem h, rfl⟩
      exact ⟨k1, k2, fun i hi => by rw [h2, (k4 _ (hrow i hi)).1], fun i hi => (k4 _ (hrow i hi)).2, by omega⟩
def inner (P : Nat → Nat → Bool) (i k n : Nat) : List (Nat × Nat) := ((List.range' k n).filter (P i)).map fun j => (i, j)
end Go.Am.Share

/-
  What functions of chapter 07 compute, 7: who envies whom, how fair it is, and why.
-/
set_option linter.unusedVariables false
set_option linter.unusedSimpArgs false
set_option maxRecDepth 10000
namespace Go.Am.Share

end Go.Am.Share

/-
  What functions of chapter 07 compute, 8: who envies whom, how fair it is, and why (the program's).
-/
set_option linter.unusedVariables false
set_option linter.unusedSimpArgs false
set_option maxRecDepth 10000
namespace Go.Am.Share

/-- What is asked of lists that come in. -/
structure In (rs : List Row) (nl' : Bool) (sz' : Nat) (o : List Int) : Prop where
  hl : rs.length < 1000000
  hr : ∀ r ∈ rs, r.l.length < 1000000
  ho : o.length < 1000000
  hsz : o = [] ∨ sz' = 1
  hnl : nl' = true → o = []

end Go.Am.Share


