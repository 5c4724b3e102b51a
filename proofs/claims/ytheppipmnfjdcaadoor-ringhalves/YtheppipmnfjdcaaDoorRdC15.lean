import Derived.Test.YtheppipmnfjdcaaDoorRdC11
/-
  What functions of chapter 04 compute, 15: finds turned round, as the reference says.
-/
set_option linter.unusedVariables false
set_option linter.unusedSimpArgs false
set_option maxRecDepth 10000
namespace Go.Am.Ring
open Go.Am.G

end Go.Am.Ring

/-
  What functions of chapter 04 compute, 16: the reference's rings.
-/
set_option linter.unusedVariables false
set_option linter.unusedSimpArgs false
set_option maxRecDepth 10000
namespace Go.Am.Ring
open Go.Am.G

def st (P : List (Nat × Nat)) (i : Nat) : Nat := (P.getD i (0, 0)).1
def en (P : List (Nat × Nat)) (i : Nat) : Nat := (P.getD i (0, 0)).2
theorem getD_at {α : Type} (P : List α) (i : Nat) (d : α) (h : i < P.length) : P.getD i d = P[i] := by
  rw [List.getD_eq_getElem?_getD, List.getElem?_eq_getElem h]; rfl
theorem pcSE (P : List (Nat × Nat)) (i : Nat) (h : i < P.length) : ((pcI (P.map castP)).drop (i * 2)).take 2 = [.int .i64 ((st P i : Nat) : Int), .int .i64 ((en P i : Nat) : Int)] := by
  rw [pcN_seg P i h, st, en, getD_at P i _ h]
end Go.Am.Ring

/-
  What functions of chapter 04 compute, 17: the reference's rings, all of them.
-/
set_option linter.unusedVariables false
set_option linter.unusedSimpArgs false
set_option maxRecDepth 10000
namespace Go.Am.Ring
open Go.Am.G

theorem nodup_le : ∀ (s t : List Nat), s.Nodup → (∀ x ∈ s, x ∈ t) → s.length ≤ t.length
  | [], t, _, _ => by simp
  | a :: s, t, hs, ht => by
    have hs := List.nodup_cons.1 hs
    have := nodup_le s (t.erase a) hs.2 (fun x hx => by
      have hxa : x ≠ a := fun e => hs.1 (e ▸ hx)
      exact (List.mem_erase_of_ne hxa).2 (ht x (by simp [hx])))
    have ha := ht a (by simp)
    rw [List.length_erase_of_mem ha] at this
    have hp := List.length_pos_of_mem ha
    simp; omega
/-- Finds that may be the beginning of a ring. -/
structure Beg (n : Nat) (P : List (Nat × Nat)) (b : List Nat) : Prop where
  ne : b ≠ []
  lt : ∀ k ∈ b, k < P.length
  nd : (b.map (st P)).Nodup
theorem st_lt {n : Nat} {P : List (Nat × Nat)} (G : Good n P) {k : Nat} (h : k < P.length) : st P k < n ∧ en P k < n ∧ st P k ≠ en P k := by
  unfold st en
  rw [getD_at P k _ h]
  exact ⟨(G.lt _ (List.getElem_mem h)).1, (G.lt _ (List.getElem_mem h)).2, G.ne _ (List.getElem_mem h)⟩
theorem Beg.len {n : Nat} {P : List (Nat × Nat)} (G : Good n P) {b : List Nat} (B : Beg n P b) : b.length ≤ 6 := by
  have := nodup_le (b.map (st P)) (List.range n) B.nd (fun x hx => by
    obtain ⟨k, hk, rfl⟩ := List.mem_map.1 hx
    exact List.mem_range.2 (st_lt G (B.lt k hk)).1)
  simp at this
  have := G.le6
  omega
end Go.Am.Ring

/-
  Forms and finds, in plain: there is a ring just if each order contradicts a find.
-/
set_option linter.unusedVariables false
set_option linter.unusedSimpArgs false
namespace Go.Am.Ring

def Chain (P : List (Nat × Nat)) : List Nat → Prop
  | [] => True
  | [_] => True
  | a :: b :: r => en P a = st P b ∧ Chain P (b :: r)
structure Cyc (P : List (Nat × Nat)) (b : List Nat) : Prop where
  ne : b ≠ []
  lt : ∀ k ∈ b, k < P.length
  nd : (b.map (st P)).Nodup
  ch : Chain P b
  cl : en P (b.getLastD 0) = st P (b.headD 0)
end Go.Am.Ring

/-
  Forms and finds, in plain: the most rings without a common find: one by one, each if so many fewer can still be had, is what trying with and without the first one gives.
-/
set_option linter.unusedVariables false
set_option linter.unusedSimpArgs false
namespace Go.Am.Ring

def Dis (a b : List Nat) : Prop := ∀ x ∈ a, x ∉ b
instance (a b : List Nat) : Decidable (Dis a b) := inferInstanceAs (Decidable (∀ x ∈ a, x ∉ b))
theorem Dis.symm {a b : List Nat} (h : Dis a b) : Dis b a := fun x hx hy => h x hy hx
def disT (r : List Nat) (t : List (List Nat)) : List (List Nat) := t.filter fun q => decide (Dis r q)
/-- With the first one, and without it. -/
def ap (l : List (List Nat)) : List (List Nat) := match l with
  | [] => []
  | r :: t =>
    if 1 + (disT r t).length = (r :: t).length then r :: ap (disT r t)
    else if (r :: ap (disT r t)).length < (ap t).length then ap t else r :: ap (disT r t)
termination_by l.length
decreasing_by
  all_goals
    have := List.length_filter_le (fun q => decide (Dis r q)) t
    first
      | (simp only [disT, List.length_cons]; omega)
      | (simp only [List.length_cons]; omega)
section
variable {R : List (List Nat)} (hne : ∀ q ∈ R, q ≠ [])
include hne
end
end Go.Am.Ring

/-
  Forms and finds, in plain: no ring just if some order contradicts nothing.
-/
set_option linter.unusedVariables false
set_option linter.unusedSimpArgs false
namespace Go.Am.Ring

abbrev FW (n : Nat) (P : List (Nat × Nat)) : Nat := (fwD anyM P n 0).1
theorem FW_le {n : Nat} {P : List (Nat × Nat)} (G : Good n P) {o : List Nat} (ho : o ∈ ords n) : FW n P ≤ contr P o := (fw_min anyM G).le _ (List.mem_map.2 ⟨o, ho, rfl⟩)
end Go.Am.Ring

/-
  What functions of chapter 04 compute, 18: finds but some, and the reference's strike.
-/
set_option linter.unusedVariables false
set_option linter.unusedSimpArgs false
set_option maxRecDepth 10000
namespace Go.Am.Ring
open Go.Am.G

end Go.Am.Ring

/-
  Forms and finds, in plain: striking one by one gives the first of the smallest lists.
-/
set_option linter.unusedVariables false
set_option linter.unusedSimpArgs false
namespace Go.Am.Ring

end Go.Am.Ring


