/-
  What functions of chapter 13 compute, 5: where things are, when all is back, when a thing comes to a place.
-/
import Derived.Test.YtgogknjedpmcgaaWashC4
import Derived.Test.YtgogknjedpmcgaaWashP2
set_option linter.unusedVariables false
set_option linter.unusedSimpArgs false
set_option maxRecDepth 10000
namespace Go.Am.Wash
open Go.Am.G

theorem mapN_eq (b : List Nat) : ∀ a, mapN b a = thenN a b
  | [] => rfl
  | x :: r => by rw [mapN, mapN_eq b r]; rfl
theorem thenN_len (a b : List Nat) : (thenN a b).length = a.length := by simp [thenN]
/-- A tide that was accepted. -/
structure Td (t : List Nat) : Prop where
  T : Tide t.length t
  h1 : 1 ≤ t.length
  h7 : t.length ≤ 7
theorem Td.lt {t : List Nat} (D : Td t) : ∀ x ∈ t, x < t.length := D.T.2.2
theorem Td.lt7 {t : List Nat} (D : Td t) : ∀ x ∈ t, x < 7 := fun x hx => by have := D.lt x hx; have := D.h7; omega
theorem td_of {t : List Int} (h : chkT t = 0) : ∃ q : List Nat, t = ci q ∧ Td q := by
  obtain ⟨q, e, h1, h2, h3⟩ := tide_of h
  exact ⟨q, e, h1, h2, h3⟩

/-! ### The program's -/
theorem cntN_eq : ∀ (R : List (List Nat)) (x : Nat), cntN R x = cnt R x
  | [], _ => rfl
  | l :: r, x => by
    rw [cntN, cntN_eq r x]
    unfold cnt
    rw [List.filter_cons]
    by_cases c : l.length = x
    · rw [c, Nat.beq_refl]; simp
    · have : Nat.beq l.length x = false := by rw [nbeq]; simpa using c
      rw [this]; simp [c]
/-- The kinds of a tide. -/
theorem kindK_c (nl ex : Bool) (sz : Nat) {t : List Nat} (D : Td t) {R : List (List Nat)} {n : Nat} (K : Known t R n) (m : LMem) : clF LP n_wash_kindOf [IL nl ex sz (ci t)] m = some (.P, .agg (ints (ci (kindL R))), m) :=
  kind_c nl ex sz t D.h7 D.lt7 R K.hp (by intro c; have := K.h0; rw [c] at this; simp at this) (fun l hl => (K.rows l hl).2.1) (by have := K.h8; omega) m
theorem kind8 (R : List (List Nat)) : (ints (ci (kindL R))).length = 8 := by simp [kindL, kF_len]
end Go.Am.Wash

