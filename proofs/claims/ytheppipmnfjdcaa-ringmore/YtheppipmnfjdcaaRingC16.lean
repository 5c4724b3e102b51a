import Derived.Test.YtheppipmnfjdcaaRingC14
/-
  What functions of chapter 04 compute, 16: the reference's rings.
-/
set_option linter.unusedVariables false
set_option linter.unusedSimpArgs false
set_option maxRecDepth 10000
namespace Go.Am.Ring
open Go.Am.G

def st (P : List (Nat × Nat)) (i : Nat) : Nat := (P.getD i (0, 0)).1
def en (P : List (Nat × Nat)) (i : Nat) : Nat := (P.getD i (0, 0)).2
theorem getD_at {α : Type} (P : List α) (i : Nat) (d : α) (h : i < P.length) : P.getD i d = P[i] := by
  rw [List.getD_eq_getElem?_getD, List.getElem?_eq_getElem h]; rfl
def freshB (P : List (Nat × Nat)) (b : List Nat) (i : Nat) : Bool := b.all fun k => !decide (st P k = st P i)
/-- All rings that begin with some finds. -/
def ringsU (P : List (Nat × Nat)) : Nat → List Nat → List (List Nat)
  | 0, _ => []
  | u + 1, b => if en P (b.getLastD 0) = st P (b.headD 0) then [b] else
      (List.range' (b.headD 0 + 1) (P.length - (b.headD 0 + 1))).flatMap fun i => if st P i = en P (b.getLastD 0) ∧ freshB P b i = true then ringsU P u (b ++ [i]) else []
end Go.Am.Ring

/-
  What functions of chapter 04 compute, 17: the reference's rings, all of them.
-/
set_option linter.unusedVariables false
set_option linter.unusedSimpArgs false
set_option maxRecDepth 10000
namespace Go.Am.Ring
open Go.Am.G

theorem nodup_le : ∀ (s t : List Nat), s.Nodup → (∀ x ∈ s, x ∈ t) → s.length ≤ t.length
  | [], t, _, _ => by simp
  | a :: s, t, hs, ht => by
    have hs := List.nodup_cons.1 hs
    have := nodup_le s (t.erase a) hs.2 (fun x hx => by
      have hxa : x ≠ a := fun e => hs.1 (e ▸ hx)
      exact (List.mem_erase_of_ne hxa).2 (ht x (by simp [hx])))
    have ha := ht a (by simp)
    rw [List.length_erase_of_mem ha] at this
    have hp := List.length_pos_of_mem ha
    simp; omega
/-- Finds that may be the beginning of a ring. -/
structure Beg (n : Nat) (P : List (Nat × Nat)) (b : List Nat) : Prop where
  ne : b ≠ []
  lt : ∀ k ∈ b, k < P.length
  nd : (b.map (st P)).Nodup
theorem st_lt {n : Nat} {P : List (Nat × Nat)} (G : Good n P) {k : Nat} (h : k < P.length) : st P k < n ∧ en P k < n ∧ st P k ≠ en P k := by
  unfold st en
  rw [getD_at P k _ h]
  exact ⟨(G.lt _ (List.getElem_mem h)).1, (G.lt _ (List.getElem_mem h)).2, G.ne _ (List.getElem_mem h)⟩
theorem Beg.len {n : Nat} {P : List (Nat × Nat)} (G : Good n P) {b : List Nat} (B : Beg n P b) : b.length ≤ 6 := by
  have := nodup_le (b.map (st P)) (List.range n) B.nd (fun x hx => by
    obtain ⟨k, hk, rfl⟩ := List.mem_map.1 hx
    exact List.mem_range.2 (st_lt G (B.lt k hk)).1)
  simp at this
  have := G.le6
  omega
theorem Beg.snoc {n : Nat} {P : List (Nat × Nat)} {b : List Nat} (B : Beg n P b) {i : Nat} (hi : i < P.length) (hf : freshB P b i = true) : Beg n P (b ++ [i]) := by
  refine ⟨by simp, ?_, ?_⟩
  · intro k hk
    rcases List.mem_append.1 hk with h | h
    · exact B.lt k h
    · rw [List.mem_singleton.1 h]; exact hi
  · rw [List.map_append, List.nodup_append]
    refine ⟨B.nd, by simp, ?_⟩
    intro x hx y hy
    simp at hy
    subst hy
    obtain ⟨k, hk, rfl⟩ := List.mem_map.1 hx
    unfold freshB at hf
    rw [List.all_eq_true] at hf
    simpa using hf k hk
/-- All rings, ascending. -/
def allR (P : List (Nat × Nat)) : List (List Nat) := (List.range P.length).flatMap fun i => ringsU P 6 [i]
end Go.Am.Ring


