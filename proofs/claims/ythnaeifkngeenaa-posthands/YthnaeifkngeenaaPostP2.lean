/-
  Plain: what is counted, what is least, and how often. No statement of the seat is proved here.
-/
import Derived.Test.YthnaeifkngeenaaPostP1
set_option linter.unusedVariables false
set_option linter.unusedSimpArgs false
namespace Go.Am.Post
open SR
instance : SR Nat where
  add := (· + ·)
  mul := (· * ·)
  zero := 0
  one := 1
  add_assoc := Nat.add_assoc
  add_comm := Nat.add_comm
  zero_add := Nat.zero_add
  mul_assoc := Nat.mul_assoc
  mul_comm := Nat.mul_comm
  one_mul := Nat.one_mul
  zero_mul := Nat.zero_mul
  mul_add := Nat.mul_add

/-- What is least. -/
abbrev MinP := Option Nat
def MinP.add : MinP → MinP → MinP
  | none, b => b
  | some a, none => some a
  | some a, some b => some (min a b)
def MinP.mul : MinP → MinP → MinP
  | some a, some b => some (a + b)
  | _, _ => none
instance : SR MinP where
  add := MinP.add
  mul := MinP.mul
  zero := none
  one := some 0
  add_assoc a b c := by cases a <;> cases b <;> cases c <;> simp [MinP.add] <;> omega
  add_comm a b := by cases a <;> cases b <;> simp [MinP.add] <;> omega
  zero_add a := by cases a <;> rfl
  mul_assoc a b c := by cases a <;> cases b <;> cases c <;> simp [MinP.mul] <;> omega
  mul_comm a b := by cases a <;> cases b <;> simp [MinP.mul] <;> omega
  one_mul a := by cases a <;> simp [MinP.mul]
  zero_mul a := by cases a <;> rfl
  mul_add a b c := by cases a <;> cases b <;> cases c <;> simp [MinP.mul, MinP.add] <;> omega

/-- What is least, and how often. -/
abbrev Few := Option (Nat × Nat)
def Few.add : Few → Few → Few
  | none, b => b
  | some a, none => some a
  | some a, some b => if a.1 < b.1 then some a else if b.1 < a.1 then some b else some (a.1, a.2 + b.2)
def Few.mul : Few → Few → Few
  | some a, some b => some (a.1 + b.1, a.2 * b.2)
  | _, _ => none
theorem Few.add_none (a : Few) : Few.add a none = a := by cases a <;> rfl
instance : SR Few where
  add := Few.add
  mul := Few.mul
  zero := none
  one := some (0, 1)
  add_assoc a b c := by
    cases a with
    | none => rfl
    | some a =>
      cases b with
      | none => rfl
      | some b =>
        cases c with
        | none => rw [Few.add_none, Few.add_none]
        | some c =>
          simp only [Few.add]
          by_cases h1 : a.1 < b.1 <;> by_cases h2 : b.1 < a.1 <;> by_cases h3 : b.1 < c.1 <;> by_cases h4 : c.1 < b.1 <;> by_cases h5 : a.1 < c.1 <;> by_cases h6 : c.1 < a.1 <;> first | (exfalso; omega) | (simp [h1, h2, h3, h4, h5, h6, Few.add]; done) | (simp [h1, h2, h3, h4, h5, h6, Few.add]; omega)
  add_comm a b := by
    cases a <;> cases b <;> simp only [Few.add]
    rename_i a b
    by_cases h1 : a.1 < b.1 <;> by_cases h2 : b.1 < a.1 <;> first | (exfalso; omega) | (simp [h1, h2]; try omega)
  zero_add a := by cases a <;> rfl
  mul_assoc a b c := by cases a <;> cases b <;> cases c <;> simp [Few.mul, Nat.mul_assoc] <;> omega
  mul_comm a b := by cases a <;> cases b <;> simp [Few.mul, Nat.mul_comm] <;> omega
  one_mul a := by cases a <;> simp [Few.mul]
  zero_mul a := by cases a <;> rfl
  mul_add a b c := by
    cases a <;> cases b <;> cases c <;> simp only [Few.mul, Few.add]
    rename_i a b c
    by_cases h1 : b.1 < c.1 <;> by_cases h2 : c.1 < b.1 <;> first | (exfalso; omega) | (simp [h1, h2, Nat.mul_add])

end Go.Am.Post

