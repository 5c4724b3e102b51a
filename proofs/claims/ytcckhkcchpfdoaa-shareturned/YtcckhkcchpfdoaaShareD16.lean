import Derived.Test.YtcckhkcchpfdoaaShareD9
/-
  Plain: the greatest product leaves no envy by more than one thing, and nothing better.
-/
set_option linter.unusedVariables false
set_option linter.unusedSimpArgs false
set_option maxRecDepth 10000
set_option maxHeartbeats 400000
namespace Go.Am.Share
open Go.Am.G

/-! ### Worths by owners -/
theorem ws_add (j : Int) : ∀ (r o : List Int) (w : Int), ws j r o w = w + ws j r o 0
  | [], o, w => by simp [ws]
  | x :: r, [], w => by simp [ws]
  | x :: r, y :: o, w => by
    rw [ws, ws, ws_add j r o (if y = j then w + x else w), ws_add j r o (if y = j then 0 + x else 0)]
    split <;> omega
theorem ws_cons (j x y : Int) (r o : List Int) : ws j (x :: r) (y :: o) 0 = (if y = j then x else 0) + ws j r o 0 := by
  rw [ws, ws_add]
  split <;> omega
theorem ws_set (j i : Int) : ∀ (r o : List Int) (k : Nat), k < r.length → k < o.length → ws j r (o.set k i) 0 = ws j r o 0 - (if o.getD k 0 = j then r.getD k 0 else 0) + (if i = j then r.getD k 0 else 0)
  | [], o, k, h, _ => by simp at h
  | x :: r, [], k, _, h => by simp at h
  | x :: r, y :: o, 0, _, _ => by
    simp only [List.set_cons_zero, ws_cons, List.getD_cons_zero]
    omega
  | x :: r, y :: o, k + 1, h1, h2 => by
    have := ws_set j i r o k (by simpa using h1) (by simpa using h2)
    simp only [List.set_cons_succ, ws_cons, List.getD_cons_succ, this]
    omega
theorem ws_nonneg (j : Int) : ∀ (r o : List Int), (∀ x ∈ r, 0 ≤ x) → 0 ≤ ws j r o 0
  | [], o, _ => by simp [ws]
  | x :: r, [], _ => by simp [ws]
  | x :: r, y :: o, h => by
    have := ws_nonneg j r o (fun z hz => h z (by simp [hz]))
    have := h x (by simp)
    rw [ws_cons]
    split <;> omega
theorem wg_max (of : Int) : ∀ (r o : List Int) (a : Int × Int), a.2 ≤ (wg of r o a).2 ∧ ∀ k, k < r.length → k < o.length → o.getD k 0 = of → r.getD k 0 ≤ (wg of r o a).2
  | [], o, a => by simp [wg]
  | x :: r, [], a => by simp [wg]
  | x :: r, y :: o, a => by
    rw [wg]
    obtain ⟨h1, h2⟩ := wg_max of r o (if y = of then (a.1 + x, if x > a.2 then x else a.2) else a)
    refine ⟨?_, fun k hk1 hk2 e => ?_⟩
    · refine Int.le_trans ?_ h1
      split
      · dsimp only; split <;> omega
      · omega
    · cases k with
      | zero =>
        simp only [List.getD_cons_zero] at e ⊢
        rw [if_pos e] at h1 ⊢
        refine Int.le_trans ?_ h1
        dsimp only; split <;> omega
      | succ k =>
        simp only [List.getD_cons_succ] at e ⊢
        exact h2 k (by simpa using hk1) (by simpa using hk2) e
/-! ### Scores -/
def cz (w : Int) : Int := if 0 < w then 1 else 0
def cnt : List Int → Int
  | [] => 0
  | w :: r => cz w + cnt r
def upd (f : Nat → Int) (i : Nat) : Nat → Int := fun m => if m = i then 0 else f m
end Go.Am.Share

/-
  What functions of chapter 07 compute, outright 12: the law 'ShareBetter': one division.
-/
set_option linter.unusedVariables false
set_option linter.unusedSimpArgs false
set_option maxRecDepth 10000
set_option maxHeartbeats 400000
namespace Go.Am.Share
open Go.Am.G

end Go.Am.Share

/-
  What functions of chapter 07 compute, outright 13: the law 'ShareBetter': from better to better ones.
-/
set_option linter.unusedVariables false
set_option linter.unusedSimpArgs false
set_option maxRecDepth 10000
set_option maxHeartbeats 400000
namespace Go.Am.Share
open Go.Am.G

/-- What the program's better division is. -/
structure BetOk (rs : List Row) (L : Nat) : Prop where
  hD : ∀ o : List Int, o.length = L → (∀ x ∈ o, 0 ≤ x ∧ x < (rs.length : Int)) → LOk rs o
  hdv : ∀ o : List Int, o.length = L → (∀ x ∈ o, 0 ≤ x ∧ x < (rs.length : Int)) → divE (vals rs) o = 0
  pos : 0 < rs.length
  le4 : rs.length ≤ 4
  hV0 : ((vals rs).getD 0 []).length = L
end Go.Am.Share

/-
  What functions of chapter 07 compute, outright 14: the law 'ShareBetter', joined.
-/
set_option linter.unusedVariables false
set_option linter.unusedSimpArgs false
set_option maxRecDepth 10000
set_option maxHeartbeats 400000
namespace Go.Am.Share
open Go.Am.G

end Go.Am.Share

/-
  What functions of chapter 07 compute, outright 15: the law 'ShareBetter', joined.
-/
set_option linter.unusedVariables false
set_option linter.unusedSimpArgs false
set_option maxRecDepth 10000
set_option maxHeartbeats 400000
namespace Go.Am.Share
open Go.Am.G

end Go.Am.Share


