/-
  Plain: a shore's posts rated place by place are all posts rated one by one. No statement of the seat is proved here.
-/
set_option linter.unusedVariables false
set_option linter.unusedSimpArgs false
namespace Go.Am.Post

/-- What can be added and multiplied. -/
class SR (K : Type) where
  add : K → K → K
  mul : K → K → K
  zero : K
  one : K
  add_assoc : ∀ a b c, add (add a b) c = add a (add b c)
  add_comm : ∀ a b, add a b = add b a
  zero_add : ∀ a, add zero a = a
  mul_assoc : ∀ a b c, mul (mul a b) c = mul a (mul b c)
  mul_comm : ∀ a b, mul a b = mul b a
  one_mul : ∀ a, mul one a = a
  zero_mul : ∀ a, mul zero a = zero
  mul_add : ∀ a b c, mul a (add b c) = add (mul a b) (mul a c)
open SR
variable {K : Type} [SR K]
instance : Std.Associative (α := K) add := ⟨add_assoc⟩
instance : Std.Commutative (α := K) add := ⟨add_comm⟩
instance : Std.Associative (α := K) mul := ⟨mul_assoc⟩
instance : Std.Commutative (α := K) mul := ⟨mul_comm⟩
theorem add_zero (a : K) : add a zero = a := by rw [add_comm, zero_add]
theorem mul_one (a : K) : mul a one = a := by rw [mul_comm, one_mul]
theorem add_mul (a b c : K) : mul (add a b) c = add (mul a c) (mul b c) := by rw [mul_comm, mul_add, mul_comm c a, mul_comm c b]

/-- All ascending lists of d numbers from i on, in ascending order. -/
def asc : Nat → Nat → List (List Nat)
  | _, 0 => [[]]
  | i, d + 1 => [] :: ((asc (i + 1) d).map (i :: ·) ++ (asc (i + 1) d).tail)
theorem asc_head (i : Nat) : ∀ d, asc i d = [] :: (asc i d).tail
  | 0 => rfl
  | _ + 1 => rfl
/-! ### The rating of places -/
structure Tri (K : Type) where
  m : K
  r : K
  w : K
end Go.Am.Post

