import Derived.Test.YtoppeojgadbjeaaTopC9
set_option linter.unusedVariables false
set_option linter.unusedSimpArgs false
set_option maxRecDepth 10000
namespace Go.Am.Top
open Go.Am.G
structure Ord (n : Nat) (o : List Nat) : Prop where
  len : o.length = n
  nd : o.Nodup
  lt : ∀ x ∈ o,x < n
theorem Ord.mem {n : Nat} {o : List Nat} (O : Ord n o) {x : Nat} (hx : x < n) : x ∈ o := by
  refine Classical.byContradiction fun h => ?_
  have h1 : (x :: o).Nodup := List.nodup_cons.2 ⟨h,O.nd⟩
  have h2 : (x :: o).length ≤ (List.range n).length := List.Nodup.length_le_of_subset h1 fun y hy => by
    rcases List.mem_cons.1 hy with rfl | hy
    · exact List.mem_range.2 hx
    · exact List.mem_range.2 (O.lt y hy)
  simp [O.len] at h2
  omega
end Go.Am.Top
set_option linter.unusedVariables false
set_option linter.unusedSimpArgs false
set_option maxRecDepth 10000
namespace Go.Am.Top
open Go.Am.G
end Go.Am.Top
