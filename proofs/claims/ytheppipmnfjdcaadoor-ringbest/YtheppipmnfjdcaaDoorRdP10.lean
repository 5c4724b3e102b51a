import Derived.Test.YtheppipmnfjdcaaDoorRdP9
import Derived.Test.YtheppipmnfjdcaaDoorRdC28
set_option linter.unusedVariables false
set_option linter.unusedSimpArgs false
namespace Go.Am.Ring
end Go.Am.Ring
set_option linter.unusedVariables false
set_option linter.unusedSimpArgs false
set_option maxRecDepth 10000
namespace Go.Am.Ring
open Go.Am.G
end Go.Am.Ring
set_option linter.unusedVariables false
set_option linter.unusedSimpArgs false
namespace Go.Am.Ring
end Go.Am.Ring
set_option linter.unusedVariables false
set_option linter.unusedSimpArgs false
set_option maxRecDepth 10000
namespace Go.Am.Ring
open Go.Am.G
def LV2 (m : LMem) (v : LV) (ib : Nat) (l : List (Nat × Nat)) : Prop :=
  ∃ cap L Z w,v = .sl ib 0 l.length cap 2 2 L ∧ m[ib]? = some ⟨Pcs l ++ Z,w⟩ ∧ (Pcs l ++ Z).length = L ∧ l.length ≤ cap
theorem LV2.view {m : LMem} {v : LV} {ib : Nat} {l : List (Nat × Nat)} (h : LV2 m v ib l) : ∃ ex,∀ k,view (k + 3) m v = some (FN false ex 2 l,[ib]) := by
  obtain ⟨cap,L,Z,w,rfl,hm,hL,hc⟩ := h
  have hp := Pcs_len l
  have hlen : (Pcs l ++ Z).length = l.length * 2 + Z.length := by rw [List.length_append,hp]
  have htk : (Pcs l ++ Z).take (l.length * 2) = Pcs l := by rw [List.take_append_of_le_length (by omega),List.take_of_length_le (by omega)]
  refine ⟨Nat.beq 2 0 && Nat.beq cap l.length,fun k => ?_⟩
  have := view_slc k m ib 0 l.length L 2 cap 2 (Pcs l ++ Z) w hm (by rw [List.drop_zero,htk]; exact Pcs_pures l) hL (by omega) hc
  rw [List.drop_zero,htk] at this
  simp only [FN_eq]
  exact this
theorem LV2.mono {m m' : LMem} {v : LV} {ib : Nat} {l : List (Nat × Nat)} (h : LV2 m v ib l) (e : m'[ib]? = m[ib]?) : LV2 m' v ib l := by
  obtain ⟨cap,L,Z,w,h1,h2,h3,h4⟩ := h
  exact ⟨cap,L,Z,w,h1,by rw [e]; exact h2,h3,h4⟩
theorem LV2.lt {m : LMem} {v : LV} {ib : Nat} {l : List (Nat × Nat)} (h : LV2 m v ib l) : ib < m.length := by
  obtain ⟨cap,L,Z,w,h1,h2,h3,h4⟩ := h
  rcases Nat.lt_or_ge ib m.length with c | c
  · exact c
  · rw [List.getElem?_eq_none c] at h2; cases h2
end Go.Am.Ring
