/-
  Plain: ascending lists; the first one that is as good as can be is found place by place. No statement of the seat is proved here.
-/
import Derived.Test.YthnaeifkngeenaaPostP2
set_option linter.unusedVariables false
set_option linter.unusedSimpArgs false
namespace Go.Am.Post
open SR

/-- Ascending, from a number on. -/
def up : Nat → List Nat → Prop
  | _, [] => True
  | i, x :: r => i ≤ x ∧ up (x + 1) r
theorem up_le {i j : Nat} (h : i ≤ j) : ∀ {l : List Nat}, up j l → up i l
  | [], _ => trivial
  | x :: r, ⟨a, b⟩ => ⟨by omega, b⟩
theorem mem_asc (d : Nat) : ∀ (i : Nat) (l : List Nat), l ∈ asc i d ↔ up i l ∧ ∀ x ∈ l, x < i + d := by
  induction d with
  | zero =>
    intro i l
    simp only [asc, List.mem_singleton]
    constructor
    · rintro rfl; simp [up]
    · rintro ⟨h1, h2⟩
      cases l with
      | nil => rfl
      | cons x r => have := h2 x (by simp); have := h1.1; omega
  | succ d ih =>
    intro i l
    have hh : l ∈ asc i (d + 1) ↔ l ∈ (asc (i + 1) d).map (i :: ·) ∨ l ∈ asc (i + 1) d := by
      rw [show asc i (d + 1) = [] :: ((asc (i + 1) d).map (i :: ·) ++ (asc (i + 1) d).tail) from rfl]
      conv => rhs; rhs; rw [asc_head]
      simp only [List.mem_cons, List.mem_append]
      constructor
      · rintro (h | h | h)
        · exact .inr (.inl h)
        · exact .inl h
        · exact .inr (.inr h)
      · rintro (h | h | h)
        · exact .inr (.inl h)
        · exact .inl h
        · exact .inr (.inr h)
    rw [hh, List.mem_map, ih]
    constructor
    · rintro (⟨l', h, rfl⟩ | h)
      · rw [ih] at h
        exact ⟨⟨Nat.le_refl _, h.1⟩, fun x hx => by
          rcases List.mem_cons.1 hx with rfl | hx
          · omega
          · have := h.2 x hx; omega⟩
      · exact ⟨up_le (by omega) h.1, fun x hx => by have := h.2 x hx; omega⟩
    · rintro ⟨h1, h2⟩
      cases l with
      | nil => right; exact ⟨trivial, by simp⟩
      | cons x r =>
        by_cases e : x = i
        · subst e
          left
          refine ⟨r, (ih _ _).2 ⟨h1.2, fun y hy => ?_⟩, rfl⟩
          have := h2 y (by simp [hy]); omega
        · right
          refine ⟨⟨by have := h1.1; omega, h1.2⟩, fun y hy => ?_⟩
          have := h2 y hy; omega
end Go.Am.Post

