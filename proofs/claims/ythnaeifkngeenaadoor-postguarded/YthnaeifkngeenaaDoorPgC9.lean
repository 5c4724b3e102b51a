import Derived.Test.YthnaeifkngeenaaDoorPgC5
import Derived.Test.YthnaeifkngeenaaDoorPgC8
import Derived.Test.YthnaeifkngeenaaDoorLm13
import Derived.Test.YthnaeifkngeenaaDoorLm14
/-
  What functions of chapter 12 compute, 9: the first of the cheapest posts.
-/
set_option linter.unusedVariables false
set_option linter.unusedSimpArgs false
set_option maxRecDepth 10000
namespace Go.Am.Post
open Go.Am.G

/-- What a price is. -/
structure PriceOk (g : Nat) (cap : List LV) (price : Nat → Nat) (n : Nat) : Prop where
  hc : LV.pures cap = true
  hp : ∀ i, i < n → ∀ m, clF LP g (.int .i64 (i : Int) :: cap) m = some (.P, .int .i64 (price i : Int), m)
  le : ∀ i, i < n → price i ≤ 20
mutual
theorem pure_shift (k : Nat) : ∀ v : LV, v.pure = true → v.shift k = v
  | .func f a b, h => by
    simp only [LV.pure, Bool.and_eq_true] at h
    simp only [LV.shift, pures_shift k a h.1, pures_shift k b h.2]
  | .agg cs, h => by simp only [LV.pure] at h; simp only [LV.shift, pures_shift k cs h]
  | .tup cs, h => by simp only [LV.pure] at h; simp only [LV.shift, pures_shift k cs h]
  | .ptr _ _ _, h | .sl _ _ _ _ _ _ _, h => by simp [LV.pure] at h
  | .undef, _ | .bool _, _ | .int _ _, _ | .nilptr, _ | .nilFunc, _ | .nilIface, _ | .elt _ _, _ | .lst _ _ _ _ _, _ => by simp only [LV.shift]
theorem pures_shift (k : Nat) : ∀ l : List LV, LV.pures l = true → LV.shifts k l = l
  | [], _ => by simp only [LV.shifts]
  | a :: r, h => by
    simp only [LV.pures, Bool.and_eq_true] at h
    simp only [LV.shifts, pure_shift k a h.1, pures_shift k r h.2]
end
mutual
theorem pure_under (k : Nat) : ∀ v : LV, v.pure = true → v.under k = true
  | .func f a b, h => by
    simp only [LV.pure, Bool.and_eq_true] at h
    simp only [LV.under, pures_under k a h.1, pures_under k b h.2, Bool.and_self]
  | .agg cs, h => by simp only [LV.pure] at h; simp only [LV.under, pures_under k cs h]
  | .tup cs, h => by simp only [LV.pure] at h; simp only [LV.under, pures_under k cs h]
  | .ptr _ _ _, h | .sl _ _ _ _ _ _ _, h => by simp [LV.pure] at h
  | .undef, _ | .bool _, _ | .int _ _, _ | .nilptr, _ | .nilFunc, _ | .nilIface, _ | .elt _ _, _ | .lst _ _ _ _ _, _ => by simp only [LV.under]
theorem pures_under (k : Nat) : ∀ l : List LV, LV.pures l = true → LV.unders k l = true
  | [], _ => by simp only [LV.unders]
  | a :: r, h => by
    simp only [LV.pures, Bool.and_eq_true] at h
    simp only [LV.unders, pure_under k a h.1, pures_under k r h.2, Bool.and_self]
end
abbrev pc (g : Nat) (cap : List LV) (must mustNot : Nat) : List LV := [.func g [] cap, .int .i64 0, .func n_post_priced_1 [] [], .func n_post_priced_2 [] [], .int .i64 1048576, .int .u64 (must : Int), .int .u64 (mustNot : Int)]
end Go.Am.Post

/-
  Plain: what is found place by place is the first of the cheapest posts. No statement of the seat is proved here.
-/
set_option linter.unusedVariables false
set_option linter.unusedSimpArgs false
namespace Go.Am.Post
open SR Go.Am.G

end Go.Am.Post

/-
  What functions of chapter 12 compute, 10: the reference's lists of places.
-/
set_option linter.unusedVariables false
set_option linter.unusedSimpArgs false
set_option maxRecDepth 10000
namespace Go.Am.Post
open Go.Am.G

end Go.Am.Post

/-
  What functions of chapter 12 compute, 11: the reference's lists that guard, and the smallest ones.
-/
set_option linter.unusedVariables false
set_option linter.unusedSimpArgs false
set_option maxRecDepth 10000
namespace Go.Am.Post
open Go.Am.G

/-- All posts that guard, in ascending order. -/
def gs (s : List Int) : List (List Nat) := (asc 0 s.length).filter (grdB s)
theorem nb_adj {s : List Int} (K : OkS s) {v u : Nat} (hv : v < s.length) (hu : u < s.length) : nb s v u = true ↔ u = v ∨ adj (par s) v u = true := by
  unfold nb adj par
  rw [if_pos hv, if_pos hu]
  simp only [Bool.or_eq_true, decide_eq_true_eq, Bool.and_eq_true]
  have f1 : v ≠ 0 → 0 ≤ s.getD v 0 := fun h => (K.hi v (by omega) hv).1
  have f2 : u ≠ 0 → 0 ≤ s.getD u 0 := fun h => (K.hi u (by omega) hu).1
  have h0 := K.h0
  constructor
  · rintro (h | h | h)
    · exact .inl h
    · right; right
      have : u ≠ 0 := by intro c; subst c; omega
      exact ⟨this, by omega⟩
    · right; left
      have : v ≠ 0 := by intro c; subst c; omega
      exact ⟨this, by omega⟩
  · rintro (h | ⟨h1, h2⟩ | ⟨h1, h2⟩)
    · exact .inl h
    · have := f1 h1; right; right; omega
    · have := f2 h1; right; left; omega
theorem grd_dom {s : List Int} (K : OkS s) {S : List Nat} (hS : S ∈ asc 0 s.length) : grdB s S = dom (par s) s.length S := by
  rw [Bool.eq_iff_iff, dom, allN_iff, grdB, List.all_eq_true]
  simp only [List.mem_range, okS]
  have hlt := asc_lt hS
  constructor
  · intro h v hv
    have := h v hv
    by_cases c : v ∈ S
    · simp [c]
    · simp only [c, if_false, Bool.not_false, Bool.and_true]
      rw [List.any_eq_true] at this ⊢
      obtain ⟨u, hu, h3⟩ := this
      rcases (nb_adj K hv (hlt u hu)).1 h3 with rfl | h4
      · exact absurd hu c
      · exact ⟨u, hu, h4⟩
  · intro h v hv
    have := h v hv
    by_cases c : v ∈ S
    · rw [List.any_eq_true]
      exact ⟨v, c, by simp [nb]⟩
    · simp only [c, if_false, Bool.not_false, Bool.and_true] at this
      rw [List.any_eq_true] at this ⊢
      obtain ⟨u, hu, h3⟩ := this
      exact ⟨u, hu, (nb_adj K hv (hlt u hu)).2 (.inr h3)⟩
end Go.Am.Post


