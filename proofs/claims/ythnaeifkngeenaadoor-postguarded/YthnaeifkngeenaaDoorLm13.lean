/-
  THE LIST MACHINE, 13: bits; lists that grow in any memory. No statement of the seat is proved here.
-/
import Derived.Test.YthnaeifkngeenaaDoorLm12
set_option linter.unusedVariables false
set_option linter.unusedSimpArgs false
namespace Go.Am.G
variable [Glo]
omit [Glo] in
theorem bits_pred {a : Nat} (ha : a < 18446744073709551616) (h0 : 0 < a) : binL .sub (.int .u64 (a : Int)) (.int .u64 1) = some (.int .u64 ((a - 1 : Nat) : Int)) := by
  rw [bin_sub]
  congr 2
  rw [IntWalk.u64_in _ (by omega)]; omega
end Go.Am.G

