import Derived.Test.YthnaeifkngeenaaDoorPdC8
import Derived.Test.YthnaeifkngeenaaDoorPdC3
/-
  What functions of chapter 12 compute, 14: a shore is rated by the fewest posts and how many lists there are.
-/
set_option linter.unusedVariables false
set_option linter.unusedSimpArgs false
set_option maxRecDepth 10000
namespace Go.Am.Post
open Go.Am.G

abbrev Pr2 := Int × Int
abbrev T6 := Pr2 × Pr2 × Pr2
abbrev f2 (x : Pr2) : List LV := [.int .i64 x.1, .int .i64 x.2]
def t6 (x : T6) : List LV := [.int .i64 x.1.1, .int .i64 x.1.2, .int .i64 x.2.1.1, .int .i64 x.2.1.2, .int .i64 x.2.2.1, .int .i64 x.2.2.2]
end Go.Am.Post

/-
  Plain: the most places that are apart, place by place. No statement of the seat is proved here.
-/
set_option linter.unusedVariables false
set_option linter.unusedSimpArgs false
namespace Go.Am.Post
variable (h : Nat → Nat)

/-- Places that come one after the other, none with something met already. -/
def fits : Nat → List Nat → Bool
  | _, [] => true
  | met, x :: r => decide (h x &&& met = 0) && fits (met ||| h x) r
def mostM : Nat → Nat → Nat → Nat
  | 0, _, _ => 0
  | d + 1, i, met => if h i &&& met = 0 then max (1 + mostM d (i + 1) (met ||| h i)) (mostM d (i + 1) met) else mostM d (i + 1) met
def grM : Nat → Nat → Nat → List Nat
  | 0, _, _ => []
  | d + 1, i, met => if h i &&& met = 0 ∧ 1 + mostM h d (i + 1) (met ||| h i) = mostM h (d + 1) i met then i :: grM d (i + 1) (met ||| h i) else grM d (i + 1) met
theorem asc_succ_mem {i d : Nat} {l : List Nat} (hl : l ∈ asc i (d + 1)) : (∃ r ∈ asc (i + 1) d, l = i :: r) ∨ l ∈ asc (i + 1) d := by
  have hm := (mem_asc _ _ _).1 hl
  cases l with
  | nil => right; exact (mem_asc _ _ _).2 ⟨trivial, by simp⟩
  | cons x r =>
    by_cases e : x = i
    · subst e
      left
      exact ⟨r, (mem_asc _ _ _).2 ⟨hm.1.2, fun y hy => by have := hm.2 y (by simp [hy]); omega⟩, rfl⟩
    · right
      exact (mem_asc _ _ _).2 ⟨⟨by have := hm.1.1; omega, hm.1.2⟩, fun y hy => by have := hm.2 y hy; omega⟩
theorem most_le (d : Nat) : ∀ i met S, S ∈ asc i d → fits h met S = true → S.length ≤ mostM h d i met := by
  induction d with
  | zero => intro i met S hS _; simp [asc] at hS; subst hS; simp
  | succ d ih =>
    intro i met S hS hf
    rw [mostM]
    rcases asc_succ_mem hS with ⟨r, hr, rfl⟩ | hr
    · simp only [fits, Bool.and_eq_true, decide_eq_true_eq] at hf
      have := ih _ _ _ hr hf.2
      rw [if_pos hf.1]; simp only [List.length_cons]; omega
    · have := ih _ _ _ hr hf
      split <;> omega
theorem gr_find (d : Nat) : ∀ i met, (asc i d).find? (fun S => fits h met S && decide (S.length = mostM h d i met)) = some (grM h d i met) := by
  induction d with
  | zero => intro i met; simp [asc, fits, mostM, grM]
  | succ d ih =>
    intro i met
    rw [show asc i (d + 1) = [] :: ((asc (i + 1) d).map (i :: ·) ++ (asc (i + 1) d).tail) from rfl, List.find?_cons]
    by_cases hb : mostM h (d + 1) i met = 0
    · have h0 : mostM h d (i + 1) met = 0 := by rw [mostM] at hb; split at hb <;> omega
      have hi := ih (i + 1) met
      rw [h0, asc_head] at hi
      simp only [List.find?_cons, fits, List.length_nil, decide_true, Bool.and_true, Option.some.injEq] at hi
      simp only [hb, fits, List.length_nil, decide_true, Bool.and_true]
      rw [grM, if_neg (by omega), ← hi]
    · have hb' : ¬ 0 = mostM h (d + 1) i met := fun e => hb e.symm
      simp only [fits, List.length_nil, hb', decide_false, Bool.and_false, List.find?_append, find_map, List.length_cons]
      rw [grM]
      by_cases hc : h i &&& met = 0 ∧ 1 + mostM h d (i + 1) (met ||| h i) = mostM h (d + 1) i met
      · rw [if_pos hc]
        have hi := ih (i + 1) (met ||| h i)
        have e : (fun x : List Nat => decide (h i &&& met = 0) && fits h (met ||| h i) x && decide (x.length + 1 = mostM h (d + 1) i met)) = fun S => fits h (met ||| h i) S && decide (S.length = mostM h d (i + 1) (met ||| h i)) := by
          funext x
          rw [← hc.2]
          simp only [hc.1, decide_true, Bool.true_and]
          congr 2
          rw [eq_iff_iff]; omega
        rw [e, hi]; rfl
      · rw [if_neg hc]
        have hmx : mostM h (d + 1) i met = mostM h d (i + 1) met := by
          rw [mostM] at hc ⊢
          by_cases hf : h i &&& met = 0
          · rw [if_pos hf] at hc ⊢; omega
          · rw [if_neg hf]
        have e : (asc (i + 1) d).find? (fun x : List Nat => decide (h i &&& met = 0) && fits h (met ||| h i) x && decide (x.length + 1 = mostM h (d + 1) i met)) = none := by
          rw [List.find?_eq_none]
          intro x hx
          simp only [Bool.and_eq_true, decide_eq_true_eq]
          rintro ⟨⟨h1, h2⟩, h3⟩
          have := most_le h d _ _ _ hx h2
          rw [mostM, if_pos h1] at hc h3
          exact hc ⟨h1, by omega⟩
        rw [e, hmx]
        have hi := ih (i + 1) met
        rw [asc_head, List.find?_cons] at hi
        simp only [fits, List.length_nil, show ¬ 0 = mostM h d (i + 1) met by omega, decide_false, Bool.and_false] at hi
        simpa using hi
theorem and_or_zero (a b c : Nat) : a &&& (b ||| c) = 0 ↔ a &&& b = 0 ∧ a &&& c = 0 := by
  rw [Nat.and_or_distrib_left, Nat.or_eq_zero_iff]
theorem fits_iff : ∀ (l : List Nat) (met : Nat), fits h met l = true ↔ (∀ x ∈ l, h x &&& met = 0) ∧ l.Pairwise fun a b => h a &&& h b = 0
  | [], met => by simp [fits]
  | x :: r, met => by
    simp only [fits, Bool.and_eq_true, decide_eq_true_eq, fits_iff r, List.mem_cons, forall_eq_or_imp, List.pairwise_cons, and_or_zero]
    constructor
    · rintro ⟨h1, h2, h3⟩
      exact ⟨⟨h1, fun a ha => (h2 a ha).1⟩, fun b hb => by rw [Nat.and_comm]; exact (h2 b hb).2, h3⟩
    · rintro ⟨⟨h1, h2⟩, h3, h4⟩
      exact ⟨h1, fun b hb => ⟨h2 b hb, by rw [Nat.and_comm]; exact h3 b hb⟩, h4⟩

end Go.Am.Post


