/-
  What functions of chapter 12 compute, 2: what is at hand, sets as lists.
-/
import Derived.Test.YthnaeifkngeenaaPostC1
set_option linter.unusedVariables false
set_option linter.unusedSimpArgs false
set_option maxRecDepth 10000
namespace Go.Am.Post
open Go.Am.G

/-! ### Sets as lists -/
abbrev ci (l : List Nat) : List Int := l.map fun x : Nat => (x : Int)
/-! ### What is at hand -/
def hset (h : List Nat) (i x : Nat) : List Nat := h.set i (h.getD i 0 ||| 2 ^ x)
def hstep (s : List Int) (i : Nat) (h : List Nat) : List Nat :=
  if 0 ≤ s.getD i 0 then hset (hset (hset h i i) i (s.getD i 0).toNat) (s.getD i 0).toNat i else hset h i i
def hloop (s : List Int) : Nat → Nat → List Nat → List Nat
  | 0, _, h => h
  | n + 1, k, h => hloop s n (k + 1) (hstep s k h)
def handsV (s : List Int) : List Nat := hloop s s.length 0 (List.replicate s.length 0)
end Go.Am.Post

