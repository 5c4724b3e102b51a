/-
  What functions of chapter 13 compute, 9: tides under names, odd, alike; the law of joins.
-/
import Derived.Test.YtgogknjedpmcgaaWashC8
set_option linter.unusedVariables false
set_option linter.unusedSimpArgs false
set_option maxRecDepth 10000
namespace Go.Am.Wash
open Go.Am.G

theorem cnt_le (R : List (List Nat)) (x : Nat) : cnt R x ≤ R.length := List.length_filter_le _ _
theorem kind_cell (R : List (List Nat)) (hR : ∀ l ∈ R, l.length < 8) (x : Nat) (hx : x < 8) : (ints (ci (kindL R)))[x]? = some (.int .i64 (cnt R x : Int)) := by
  have h8 : (kindL R).length = 8 := by simp [kindL, kF_len]
  rw [← kindL_at R hR x hx, nth_at _ x (by omega), ints, ci_map]
  exact nat_at _ _ _ (by omega)

/-! ### Odd -/
theorem natL_four : natL (.int .i64 4) = some 4 := rfl
theorem natL_six : natL (.int .i64 6) = some 6 := rfl
end Go.Am.Wash

