/-
  Plain: where things are after any number of tides, and when a thing comes to a place. No statement of the seat is proved here.
-/
import Derived.Test.YtgogknjedpmcgaaWashP4
set_option linter.unusedVariables false
set_option linter.unusedSimpArgs false
namespace Go.Am.Wash

theorem nth_at' (t : List Nat) (i : Nat) (h : i < t.length) : nth t i = t[i] := by rw [nth_getD]; simp [List.getD_eq_getElem?_getD, h]
theorem nth_set (o : List Nat) (i v x : Nat) (h : i < o.length) : nth (o.set i v) x = if x = i then v else nth o x := by
  simp only [nth_getD, List.getD_eq_getElem?_getD, List.getElem?_set]
  by_cases c : i = x
  · subst c; simp [h]
  · have : ¬ x = i := fun e => c e.symm
    simp [c, this]
theorem mem_nth {l : List Nat} {x : Nat} (h : x ∈ l) : ∃ j, j < l.length ∧ nth l j = x := by
  obtain ⟨j, hj, e⟩ := List.getElem_of_mem h
  exact ⟨j, hj, by rw [nth_at' l j hj, e]⟩
theorem list_nth_ext {a b : List Nat} (h : a.length = b.length) (h2 : ∀ x, x < a.length → nth a x = nth b x) : a = b := by
  apply List.ext_getElem h
  intro i h3 h4
  have := h2 i h3
  rw [nth_at' a i h3, nth_at' b i h4] at this
  exact this
/-- A list without repetitions below a number is no longer than it. -/
theorem nodup_len : ∀ (n : Nat) (l : List Nat), l.Nodup → (∀ x ∈ l, x < n) → l.length ≤ n
  | 0, l, _, h => by
    cases l with
    | nil => simp
    | cons a r => have := h a (by simp); omega
  | n + 1, l, hd, h => by
    have h1 := nodup_len n (l.filter fun x => decide (x ≠ n)) (hd.filter _) (fun x hx => by
      simp only [List.mem_filter, decide_eq_true_eq] at hx
      have := h x hx.1; omega)
    have h2 : (l.filter fun x => decide (x = n)).length ≤ 1 := by
      have e : l.filter (fun x => decide (x = n)) = l.filter (fun x => x == n) := by
        apply List.filter_congr; intro x _; rw [Bool.eq_iff_iff]; simp
      rw [e, ← List.count_eq_length_filter]
      exact List.nodup_iff_count.1 hd n
    have h3 : l.length = (l.filter fun x => decide (x ≠ n)).length + (l.filter fun x => decide (x = n)).length := by
      clear h1 h2 hd h
      induction l with
      | nil => rfl
      | cons a r ih =>
        by_cases c : a = n <;> simp [c, ih] <;> omega
    omega
end Go.Am.Wash

