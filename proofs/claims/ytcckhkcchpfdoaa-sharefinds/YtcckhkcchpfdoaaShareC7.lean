/-
  What functions of chapter 07 compute, 7: who envies whom, how fair it is, and why.
-/
import Derived.Test.YtcckhkcchpfdoaaShareC5
set_option linter.unusedVariables false
set_option linter.unusedSimpArgs false
set_option maxRecDepth 10000
namespace Go.Am.Share

def PW (V : List (List Int)) (o : List Int) : List (Nat × Nat) := outer (fun i j => decide (0 < eW V o i j)) V.length 0 V.length
def PX (V : List (List Int)) (o : List Int) : List (Nat × Nat) := outer (fun i j => decide (0 < eX V o i j)) V.length 0 V.length
theorem pw_nil {rs : List Row} {o : List Int} (D : DOk rs o) (h : PW (vals rs) o = []) : PX (vals rs) o = [] := by
  unfold PW PX outer at *
  rw [List.flatMap_eq_nil_iff] at h ⊢
  intro i hi
  have := h i hi
  unfold inner at this ⊢
  rw [List.map_eq_nil_iff, List.filter_eq_nil_iff] at this ⊢
  intro j hj
  have := this j hj
  simp only [decide_eq_true_eq] at this ⊢
  have hil : i < rs.length := by simpa [vals_length, List.mem_range'] using hi
  exact fun c => this (eX_eW _ _ _ _ (by rw [vals_at rs i hil]; exact D.ok i hil) c)
end Go.Am.Share

