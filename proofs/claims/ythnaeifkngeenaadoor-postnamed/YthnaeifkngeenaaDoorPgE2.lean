/-
  What functions of chapter 12 compute, by tables 2: what guards, what is apart, which list comes first.
-/
import Derived.Test.YthnaeifkngeenaaDoorPgD1
set_option linter.unusedVariables false
set_option linter.unusedSimpArgs false
set_option maxRecDepth 10000
namespace Go.Am.Post
open Go.Am.G

abbrev UD (d : Bool) (h : List Nat) : LV := .lst false d 1 h.length (nats h)
theorem memL_mem (x i : Nat) : i ∈ memL x ↔ i < 10 ∧ x.testBit i = true := by simp [memL, memR, List.mem_filter, List.mem_range']
theorem memL_len (x : Nat) : (memL x).length ≤ 10 := memR_len x 0 10
theorem ci_at (q : List Nat) (k : Nat) (h : k < q.length) : (ints (ci q))[k]? = some (.int .i64 ((q[k] : Nat) : Int)) := by simp [h]
def preI : List Int → List Int → Option Int
  | [], _ => none
  | _ :: _, [] => some 1
  | x :: a, y :: b => if x < y then some (-1) else if y < x then some 1 else preI a b
def lexI (a b : List Int) : Int := match preI a b with
  | some r => r
  | none => if a.length < b.length then -1 else 0
end Go.Am.Post

