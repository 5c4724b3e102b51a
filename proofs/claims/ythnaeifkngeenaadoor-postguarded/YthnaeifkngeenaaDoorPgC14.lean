import Derived.Test.YthnaeifkngeenaaDoorPgC8
import Derived.Test.YthnaeifkngeenaaDoorPgC3
/-
  What functions of chapter 12 compute, 14: a shore is rated by the fewest posts and how many lists there are.
-/
set_option linter.unusedVariables false
set_option linter.unusedSimpArgs false
set_option maxRecDepth 10000
namespace Go.Am.Post
open Go.Am.G

abbrev Pr2 := Int × Int
abbrev T6 := Pr2 × Pr2 × Pr2
abbrev f2 (x : Pr2) : List LV := [.int .i64 x.1, .int .i64 x.2]
def t6 (x : T6) : List LV := [.int .i64 x.1.1, .int .i64 x.1.2, .int .i64 x.2.1.1, .int .i64 x.2.1.2, .int .i64 x.2.2.1, .int .i64 x.2.2.2]
end Go.Am.Post

/-
  Plain: the most places that are apart, place by place. No statement of the seat is proved here.
-/
set_option linter.unusedVariables false
set_option linter.unusedSimpArgs false
namespace Go.Am.Post
variable (h : Nat → Nat)

/-- Places that come one after the other, none with something met already. -/
def fits : Nat → List Nat → Bool
  | _, [] => true
  | met, x :: r => decide (h x &&& met = 0) && fits (met ||| h x) r
theorem and_or_zero (a b c : Nat) : a &&& (b ||| c) = 0 ↔ a &&& b = 0 ∧ a &&& c = 0 := by
  rw [Nat.and_or_distrib_left, Nat.or_eq_zero_iff]
theorem fits_iff : ∀ (l : List Nat) (met : Nat), fits h met l = true ↔ (∀ x ∈ l, h x &&& met = 0) ∧ l.Pairwise fun a b => h a &&& h b = 0
  | [], met => by simp [fits]
  | x :: r, met => by
    simp only [fits, Bool.and_eq_true, decide_eq_true_eq, fits_iff r, List.mem_cons, forall_eq_or_imp, List.pairwise_cons, and_or_zero]
    constructor
    · rintro ⟨h1, h2, h3⟩
      exact ⟨⟨h1, fun a ha => (h2 a ha).1⟩, fun b hb => by rw [Nat.and_comm]; exact (h2 b hb).2, h3⟩
    · rintro ⟨⟨h1, h2⟩, h3, h4⟩
      exact ⟨h1, fun b hb => ⟨h2 b hb, by rw [Nat.and_comm]; exact h3 b hb⟩, h4⟩

end Go.Am.Post


