import Derived.Test.YthnaeifkngeenaaDoorPgC3
import Derived.Test.YthnaeifkngeenaaDoorLm12
/-
  What functions of chapter 12 compute, 8: a shore is rated by numbers.
-/
set_option linter.unusedVariables false
set_option linter.unusedSimpArgs false
set_option maxRecDepth 10000
namespace Go.Am.Post
open Go.Am.G

/-- Three numbers that lie one after the other. -/
abbrev T3 := Int × Int × Int
def t3 (x : T3) : List LV := [.int .i64 x.1, .int .i64 x.2.1, .int .i64 x.2.2]
def fl (T : List T3) : List LV := T.flatMap t3
/-- A way of rating: what a post, nothing and what cannot be are rated; how parts are put together, and which one is taken. -/
structure Rat where
  gp : Nat
  cap : List LV
  post : Nat → Int
  empty : Int
  gj : Nat
  J : Int → Int → Int
  go : Nat
  O : Int → Int → Int
  none : Int
abbrev Rat.cells (r : Rat) (must mustNot : Nat) : List LV := [.func r.gp [] r.cap, .int .i64 r.empty, .func r.gj [] [], .func r.go [] [], .int .i64 r.none, .int .u64 (must : Int), .int .u64 (mustNot : Int)]
/-- What its functions compute. -/
structure Rat.Ok (r : Rat) (n : Nat) : Prop where
  hc : LV.pures r.cap = true
  hp : ∀ i, i < n → ∀ m, clF LP r.gp (.int .i64 (i : Int) :: r.cap) m = some (.P, .int .i64 (r.post i), m)
  hj : ∀ x y m, clF LP r.gj [.int .i64 x, .int .i64 y] m = some (.P, .int .i64 (r.J x y), m)
  ho : ∀ x y m, clF LP r.go [.int .i64 x, .int .i64 y] m = some (.P, .int .i64 (r.O x y), m)

end Go.Am.Post

/-
  Plain: the program's rating follows the rating by sets. No statement of the seat is proved here.
-/
set_option linter.unusedVariables false
set_option linter.unusedSimpArgs false
namespace Go.Am.Post
open SR Go.Am.G

/-- What is behind each place. -/
def par (s : List Int) (v : Nat) : Nat := if v < s.length then (s.getD v 0).toNat else 0
theorem par_lt {s : List Int} (K : OkS s) (v : Nat) (hv : v ≠ 0) : par s v < v := by
  unfold par
  split
  · rename_i h
    have := K.hi v (by omega) h; omega
  · omega
/-- A number follows a rating; t parts at most were put together. -/
structure Sim (r : Rat) (K : Type) [SR K] (pk : Nat → K) (R : Nat → Int → K → Prop) (n : Nat) : Prop where
  up : ∀ t x y, R t x y → R (t + 1) x y
  j : ∀ t x y x' y', t < 10 → R t x y → R t x' y' → R (t + 1) (r.J x x') (mul y y')
  o : ∀ t x y x' y', t < 12 → R t x y → R t x' y' → R t (r.O x x') (add y y')
  post : ∀ i, i < n → R 0 (r.post i) (pk i)
  none : R 0 r.none zero
  empty : R 0 r.empty one
variable {r : Rat} {K : Type} [SR K] {pk : Nat → K} {R : Nat → Int → K → Prop} {n : Nat}
end Go.Am.Post


