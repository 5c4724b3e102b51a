import Derived.Test.YtcckhkcchpfdoaaShareC15
import Derived.Test.YtcckhkcchpfdoaaShareC6
set_option linter.unusedVariables false
set_option linter.unusedSimpArgs false
set_option maxRecDepth 10000
namespace Go.Am
namespace Share
structure VOk (rs : List Row) (L : Nat) : Prop where
  pos : 0 < rs.length
  le4 : rs.length ≤ 4
  len : ∀ i (h : i < rs.length),rs[i].l.length = L
  ok : ∀ i (h : i < rs.length),Ok20 rs[i].l
  le6 : L ≤ 6
end Share
end Go.Am
set_option linter.unusedVariables false
set_option linter.unusedSimpArgs false
namespace Go.Am.Share
structure WOk (e : Int → Int) (N : Nat) (l : List Int) (w : Int) : Prop where
  nd : l.Nodup
  rng : ∀ x ∈ l,0 ≤ x ∧ x < (N : Int)
  w0 : 0 ≤ w ∧ w < (N : Int)
  chain : ∀ i,i + 1 < l.length → l.getD (i + 1) 0 = e (l.getD i 0)
  last : l ≠ [] → w = e (l.getD (l.length - 1) 0)
theorem WOk.step {e : Int → Int} {N : Nat} (he : ∀ x,0 ≤ x → x < (N : Int) → 0 ≤ e x ∧ e x < (N : Int)) {l : List Int} {w : Int} (H : WOk e N l w) (hw : ¬ w ∈ l) : WOk e N (l ++ [w]) (e w) := by
  refine ⟨?_,?_,he w H.w0.1 H.w0.2,?_,?_⟩
  · rw [List.nodup_append]
    refine ⟨H.nd,by simp,?_⟩
    intro a ha b hb
    simp at hb
    subst hb
    intro c; subst c; exact hw ha
  · intro x hx
    rcases List.mem_append.1 hx with c | c
    · exact H.rng x c
    · simp at c; subst c; exact H.w0
  · intro i hi
    simp only [List.length_append,List.length_cons,List.length_nil] at hi
    by_cases h2 : i + 1 < l.length
    · have := H.chain i h2
      simp only [List.getD_eq_getElem?_getD] at this ⊢
      rw [List.getElem?_append_left h2,List.getElem?_append_left (by omega)]
      exact this
    · have h3 : i + 1 = l.length := by omega
      have hne : l ≠ [] := by intro c; subst c; simp at h3
      have := H.last hne
      simp only [List.getD_eq_getElem?_getD] at this ⊢
      rw [List.getElem?_append_left (show i < l.length by omega),List.getElem?_append_right (by omega),h3]
      simp only [Nat.sub_self,List.getElem?_cons_zero,Option.getD_some]
      rw [this]
      rw [show l.length - 1 = i by omega]
  · intro _
    simp [List.getD_eq_getElem?_getD]
structure ROk (e : Int → Int) (N : Nat) (l : List Int) : Prop where
  ne : l ≠ []
  nd : l.Nodup
  rng : ∀ x ∈ l,0 ≤ x ∧ x < (N : Int)
  nxt : ∀ i,i < l.length → l.getD ((i + 1) % l.length) 0 = e (l.getD i 0)
end Go.Am.Share
