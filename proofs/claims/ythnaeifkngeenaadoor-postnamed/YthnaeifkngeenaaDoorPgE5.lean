/-
  What functions of chapter 12 compute, by tables, members handed over 5: the law 'PostGuarded'.
-/
import Derived.Test.YthnaeifkngeenaaDoorPgE3
set_option linter.unusedVariables false
set_option linter.unusedSimpArgs false
set_option maxRecDepth 10000
set_option maxHeartbeats 400000
namespace Go.Am.Post
open Go.Am.G

theorem bit_mem {x : Nat} (hx : x < 1024) (i : Nat) : i ∈ memL x ↔ x.testBit i = true := by
  rw [memL_mem]
  constructor
  · exact fun h => h.2
  · intro h
    refine ⟨?_, h⟩
    by_cases c : i < 10
    · exact c
    · have : x < 2 ^ i := Nat.lt_of_lt_of_le hx (Nat.pow_le_pow_right (n := 2) (by omega) (show 10 ≤ i by omega))
      rw [Nat.testBit_lt_two_pow this] at h; cases h
section
variable (b : Bool) {s : List Int} (K : OkS s)
include K
theorem few_v (m : LMem) : clF LP n_post_Fewest [IL false b 1 s] m = some (.P, .tup [RLn (firstS s (fun _ => 1)), .int .i64 0], m) := by
  have h := fewestP_c false b 1 s (by have := K.le; omega) m
  rw [fewV, K.chk, if_pos rfl] at h
  exact h
end

end Go.Am.Post

