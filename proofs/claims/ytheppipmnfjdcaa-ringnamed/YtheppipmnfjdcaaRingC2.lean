/-
  What functions of chapter 04 compute, 2: places, what an order contradicts.
-/
import Derived.Test.YtheppipmnfjdcaaRingC1
set_option linter.unusedVariables false
set_option linter.unusedSimpArgs false
set_option maxRecDepth 10000
namespace Go.Am.Ring
open Go.Am.G

/-! ### Places -/
def plcG (x : Int) : Nat → List Int → Int
  | _, [] => -1
  | k, a :: r => if a = x then (k : Int) else plcG x (k + 1) r
def plc (l : List Int) (x : Int) : Int := plcG x 0 l
theorem plcG_lt (x : Int) : ∀ (l : List Int) (k : Nat), -1 ≤ plcG x k l ∧ plcG x k l < (k : Int) + l.length
  | [], k => by simp [plcG]; omega
  | a :: r, k => by
    have := plcG_lt x r (k + 1)
    rw [plcG, List.length_cons]
    split <;> omega
theorem plcG_mem (x : Int) : ∀ (l : List Int) (k : Nat), (0 ≤ plcG x k l ↔ x ∈ l)
  | [], k => by simp [plcG]
  | a :: r, k => by
    have := plcG_mem x r (k + 1)
    rw [plcG, List.mem_cons]
    split
    · rename_i h; subst h; simp
    · rename_i h
      rw [this]
      constructor
      · exact .inr
      · rintro (h' | h')
        · exact absurd h'.symm h
        · exact h'
theorem plc_mem (l : List Int) (x : Int) : 0 ≤ plc l x ↔ x ∈ l := plcG_mem x l 0
theorem plcG_snoc (x y : Int) : ∀ (l : List Int) (k : Nat), plcG x k (l ++ [y]) = if x ∈ l then plcG x k l else if y = x then ((k + l.length : Nat) : Int) else -1
  | [], k => by simp [plcG]
  | a :: r, k => by
    rw [List.cons_append, plcG, plcG_snoc x y r (k + 1), plcG]
    by_cases c : a = x
    · subst c; simp
    · have : x ∈ a :: r ↔ x ∈ r := by simp [Ne.symm c]
      simp only [if_neg c, this, List.length_cons]
      split
      · rfl
      · split
        · congr 1; omega
        · rfl

/-! ### What an order contradicts -/
def agnF (o : List Int) : Nat → List (Int × Int) → List Int
  | _, [] => []
  | k, p :: r => if plc o p.2 < plc o p.1 then (k : Int) :: agnF o (k + 1) r else agnF o (k + 1) r
def agn (l : List (Int × Int)) (o : List Int) : List Int := agnF o 0 l
/-! ### The reference's Against -/
def chkO (N : Int) : List Int → List Int → Int
  | _, [] => 0
  | pre, x :: r => if 0 ≤ x ∧ x < N then (if x ∈ pre then 6 else chkO N (pre ++ [x]) r) else 2
def againstV (N : Int) (l : List (Int × Int)) (o : List Int) : List Int × Int :=
  if chkF N l = 0 then (if (o.length : Int) = N then (if chkO N [] o = 0 then (agn l o, 0) else ([], chkO N [] o)) else ([], 5)) else ([], chkF N l)
theorem chkF_ok {N : Int} {l : List (Int × Int)} (h : chkF N l = 0) : (1 ≤ N ∧ N ≤ 6) ∧ l.length ≤ 12 ∧ chkP N l = 0 := by
  unfold chkF at h
  split at h
  · rename_i h1
    split at h
    · rename_i h2; exact ⟨h1, h2, h⟩
    · omega
  · omega
end Go.Am.Ring

