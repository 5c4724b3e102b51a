/-
  What functions of chapter 04 compute, 18: finds but some, and the reference's strike.
-/
import Derived.Test.YtheppipmnfjdcaaRingC16
set_option linter.unusedVariables false
set_option linter.unusedSimpArgs false
set_option maxRecDepth 10000
namespace Go.Am.Ring
open Go.Am.G

/-- The finds but some. -/
def woF (S : List Nat) : Nat → List (Nat × Nat) → List (Nat × Nat)
  | _, [] => []
  | k, p :: r => if k ∈ S then woF S (k + 1) r else p :: woF S (k + 1) r
theorem woF_len (S : List Nat) : ∀ (l : List (Nat × Nat)) (k : Nat), (woF S k l).length ≤ l.length
  | [], k => by simp [woF]
  | p :: r, k => by
    have := woF_len S r (k + 1)
    rw [woF]
    split <;> simp <;> omega
theorem woF_mem (S : List Nat) : ∀ (l : List (Nat × Nat)) (k : Nat), ∀ p ∈ woF S k l, p ∈ l
  | [], k, p, h => by simp [woF] at h
  | q :: r, k, p, h => by
    rw [woF] at h
    split at h
    · exact List.mem_cons.2 (.inr (woF_mem S r (k + 1) p h))
    · rcases List.mem_cons.1 h with h | h
      · exact List.mem_cons.2 (.inl h)
      · exact List.mem_cons.2 (.inr (woF_mem S r (k + 1) p h))
theorem good_wo {n : Nat} {P : List (Nat × Nat)} (G : Good n P) (S : List Nat) (k : Nat) : Good n (woF S k P) :=
  ⟨G.pos, G.le6, Nat.le_trans (woF_len S P k) G.le12, fun p hp => G.lt p (woF_mem S P k p hp), fun p hp => G.ne p (woF_mem S P k p hp)⟩
def fromN (b : List Nat) : Nat := if b = [] then 0 else b.getLastD 0 + 1
/-- The first list of so many more finds that can be struck out. -/
def strikeS (P : List (Nat × Nat)) : Nat → List Nat → Option (List Nat)
  | 0, b => if allR (woF b 0 P) = [] then some b else none
  | k + 1, b => (List.range' (fromN b) (P.length - fromN b)).findSome? fun i => strikeS P k (b ++ [i])
end Go.Am.Ring

