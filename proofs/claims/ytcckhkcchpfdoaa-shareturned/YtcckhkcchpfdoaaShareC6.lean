import Derived.Test.YtcckhkcchpfdoaaShareC3
/-
  What functions of chapter 07 compute, 6: pairs of finders with envy.
-/
set_option linter.unusedVariables false
set_option linter.unusedSimpArgs false
set_option maxRecDepth 10000
namespace Go.Am.Share

def eW (V : List (List Int)) (o : List Int) (i j : Nat) : Int := ws j (V.getD i []) o 0 - ws i (V.getD i []) o 0
def eX (V : List (List Int)) (o : List Int) (i j : Nat) : Int := ws j (V.getD i []) o 0 - (wg j (V.getD i []) o (0, 0)).2 - ws i (V.getD i []) o 0
structure DOk (rs : List Row) (o : List Int) : Prop where
  pos : 0 < rs.length
  le4 : rs.length ≤ 4
  len : ∀ i (h : i < rs.length), o.length = rs[i].l.length
  ok : ∀ i (h : i < rs.length), Ok20 rs[i].l
  le6 : o.length ≤ 6
theorem vals_at (rs : List Row) (i : Nat) (h : i < rs.length) : (vals rs).getD i [] = rs[i].l := by simp [vals, List.getD_eq_getElem?_getD, List.getElem?_eq_getElem h]
theorem eX_eW (V : List (List Int)) (o : List Int) (i j : Nat) (h : Ok20 (V.getD i [])) (hx : 0 < eX V o i j) : 0 < eW V o i j := by
  have := wg_bound j (V.getD i []) o (0, 0) h (by simp)
  unfold eX at hx; unfold eW; omega
def inner (P : Nat → Nat → Bool) (i k n : Nat) : List (Nat × Nat) := ((List.range' k n).filter (P i)).map fun j => (i, j)
theorem inner_succ (P : Nat → Nat → Bool) (i k n : Nat) : inner P i k (n + 1) = (if P i k then [(i, k)] else []) ++ inner P i (k + 1) n := by
  unfold inner
  rw [List.range'_succ, List.filter_cons]
  split <;> simp
def outer (P : Nat → Nat → Bool) (N k n : Nat) : List (Nat × Nat) := (List.range' k n).flatMap fun i => inner P i 0 N
theorem outer_succ (P : Nat → Nat → Bool) (N k n : Nat) : outer P N k (n + 1) = inner P k 0 N ++ outer P N (k + 1) n := by
  unfold outer
  rw [List.range'_succ, List.flatMap_cons]
end Go.Am.Share

/-
  What functions of chapter 07 compute, 7: who envies whom, how fair it is, and why.
-/
set_option linter.unusedVariables false
set_option linter.unusedSimpArgs false
set_option maxRecDepth 10000
namespace Go.Am.Share

def PW (V : List (List Int)) (o : List Int) : List (Nat × Nat) := outer (fun i j => decide (0 < eW V o i j)) V.length 0 V.length
def PX (V : List (List Int)) (o : List Int) : List (Nat × Nat) := outer (fun i j => decide (0 < eX V o i j)) V.length 0 V.length
end Go.Am.Share

/-
  What functions of chapter 07 compute, 8: who envies whom, how fair it is, and why (the program's).
-/
set_option linter.unusedVariables false
set_option linter.unusedSimpArgs false
set_option maxRecDepth 10000
namespace Go.Am.Share

/-- What is asked of lists that come in. -/
structure In (rs : List Row) (nl' : Bool) (sz' : Nat) (o : List Int) : Prop where
  hl : rs.length < 1000000
  hr : ∀ r ∈ rs, r.l.length < 1000000
  ho : o.length < 1000000
  hsz : o = [] ∨ sz' = 1
  hnl : nl' = true → o = []

end Go.Am.Share


