/-
  What functions of chapter 07 compute, outright 3: envy, and how fair a division is.
-/
import Derived.Test.YtcckhkcchpfdoaaShareD1
set_option linter.unusedVariables false
set_option linter.unusedSimpArgs false
set_option maxRecDepth 10000
set_option maxHeartbeats 400000
namespace Go.Am.Share
open Go.Am.G

theorem wr_row {rs : List Row} (o : List Int) {i : Nat} (hi : i < rs.length) : ((WR (vals rs) o).map Row.lv)[i]? = some (IL false true 1 (wrow (vals rs) o i 0 rs.length)) := by
  rw [row_at _ _ (show i < (WR (vals rs) o).length by rw [WR_len, vals_length]; exact hi), WR_at, vals_length]
theorem wr_int {rs : List Row} (o : List Int) {i j : Nat} (hi : i < rs.length) (hj : j < rs.length) : (ints (wrow (vals rs) o i 0 rs.length))[j]? = some (.int .i64 (ws (j : Int) rs[i].l o 0)) := by
  rw [int_get (by rw [wrow_len]; exact hj), wrow_at _ _ _ _ _ hj, vals_at rs i hi]
end Go.Am.Share

