import Derived.Test.YthnaeifkngeenaaDoorPgC16
import Derived.Test.YthnaeifkngeenaaDoorPgC14
/-
  What functions of chapter 12 compute, 17: places that are always, or never, in the smallest lists; the law of counts.
-/
set_option linter.unusedVariables false
set_option linter.unusedSimpArgs false
set_option maxRecDepth 10000
namespace Go.Am.Post
open Go.Am.G

end Go.Am.Post

/-
  Plain: in a tree the fewest posts that guard are as many as places can be apart; a place more; smaller prices. No statement of the seat is proved here.
-/
set_option linter.unusedVariables false
set_option linter.unusedSimpArgs false
namespace Go.Am.Post

/-- A place is at hand. -/
def near (par : Nat → Nat) (v w : Nat) : Prop := v = w ∨ adj par v w = true
theorem adj_iff (par : Nat → Nat) (v u : Nat) : adj par v u = true ↔ (v ≠ 0 ∧ u = par v) ∨ (u ≠ 0 ∧ par u = v) := by
  simp [adj]
theorem dom_iff (par : Nat → Nat) (n : Nat) (S : List Nat) : dom par n S = true ↔ ∀ v, v < n → ∃ u ∈ S, near par v u := by
  rw [dom, allN_iff]
  constructor
  · intro h v hv
    have := h v hv
    unfold okS at this
    by_cases c : v ∈ S
    · exact ⟨v, c, .inl rfl⟩
    · rw [if_neg c] at this
      simp only [Bool.not_false, Bool.and_true, List.any_eq_true] at this
      obtain ⟨u, hu, e⟩ := this
      exact ⟨u, hu, .inr e⟩
  · intro h v hv
    obtain ⟨u, hu, e⟩ := h v hv
    unfold okS
    by_cases c : v ∈ S
    · rw [if_pos c]; rfl
    · rw [if_neg c]
      simp only [Bool.not_false, Bool.and_true, List.any_eq_true]
      rcases e with e | e
      · exact absurd (e ▸ hu) c
      · exact ⟨u, hu, e⟩
def far (par : Nat → Nat) (a b : Nat) : Prop := ∀ w, ¬ (near par a w ∧ near par b w)
theorem len_le : ∀ (A B : List Nat), A.Nodup → (∀ x ∈ A, x ∈ B) → A.length ≤ B.length
  | [], B, _, _ => Nat.zero_le _
  | a :: r, B, hn, h => by
    obtain ⟨h1, h2⟩ := List.nodup_cons.1 hn
    have ha := h a (by simp)
    have ih := len_le r (B.erase a) h2 fun x hx => by
      have hne : x ≠ a := fun e => h1 (e ▸ hx)
      exact (List.mem_erase_of_ne hne).2 (h x (by simp [hx]))
    rw [List.length_erase_of_mem ha] at ih
    have : 0 < B.length := List.length_pos_of_mem ha
    simp only [List.length_cons]
    omega
theorem up_nodup : ∀ {l : List Nat} {i : Nat}, up i l → l.Nodup
  | [], _, _ => List.nodup_nil
  | x :: r, i, h => List.nodup_cons.2 ⟨fun c => by have := up_ge h.2 x c; omega, up_nodup h.2⟩
/-- Places that are apart are never more than posts that guard. -/
theorem weak (par : Nat → Nat) (n : Nat) {S P : List Nat} (hS : dom par n S = true) (hP : ∀ p ∈ P, p < n) (hf : P.Pairwise (far par)) : P.length ≤ S.length := by
  rw [dom_iff] at hS
  have hch : ∃ f : Nat → Nat, ∀ p, p < n → f p ∈ S ∧ near par p (f p) := by
    refine ⟨fun p => if h : p < n then Classical.choose (hS p h) else 0, fun p h => ?_⟩
    simp only [h, dif_pos]
    exact Classical.choose_spec (hS p h)
  obtain ⟨f, hf2⟩ := hch
  have hn : (P.map f).Nodup := by
    rw [List.Nodup, List.pairwise_map]
    refine List.Pairwise.imp_of_mem ?_ hf
    intro a b ha hb hab e
    exact hab (f a) ⟨(hf2 a (hP a ha)).2, e ▸ (hf2 b (hP b hb)).2⟩
  have := len_le (P.map f) S hn fun x hx => by
    obtain ⟨p, hp, rfl⟩ := List.mem_map.1 hx
    exact (hf2 p (hP p hp)).1
  simpa using this
end Go.Am.Post


