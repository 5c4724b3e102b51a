/-
  What functions of chapter 04 compute, 13: what is sure, as the reference says; it is the same.
-/
import Derived.Test.YtheppipmnfjdcaaRingC10
set_option linter.unusedVariables false
set_option linter.unusedSimpArgs false
set_option maxRecDepth 10000
namespace Go.Am.Ring
open Go.Am.G

theorem pos_inj (o : List Nat) (a b : Nat) (ha : a ∈ o) (hab : a ≠ b) : pos o a ≠ pos o b := by
  induction o with
  | nil => simp at ha
  | cons f r ih =>
    rw [pos_cons, pos_cons]
    by_cases c1 : f = a
    · rw [if_pos c1, if_neg (fun c => hab (c1.symm.trans c))]
      have := pos_ge r b
      split
      · rename_i h; have := (pos_mem r b).2 h; omega
      · omega
    · rw [if_neg c1]
      have har : a ∈ r := by
        rcases List.mem_cons.1 ha with h | h
        · exact absurd h.symm c1
        · exact h
      have := (pos_mem r a).2 har
      have := ih har
      rw [if_pos har]
      by_cases c2 : f = b
      · rw [if_pos c2]; omega
      · rw [if_neg c2]
        split <;> omega
end Go.Am.Ring

