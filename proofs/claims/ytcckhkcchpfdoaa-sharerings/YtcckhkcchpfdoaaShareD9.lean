import Derived.Test.YtcckhkcchpfdoaaShareD4
/-
  What functions of chapter 07 compute, outright 9: the law 'ShareFree'.
-/
set_option linter.unusedVariables false
set_option linter.unusedSimpArgs false
set_option maxRecDepth 10000
set_option maxHeartbeats 400000
namespace Go.Am.Share
open Go.Am.G

section
variable (w : LBlk) (b0 c0 : Bool) (z0 : Nat) {rs : List Row}
end
end Go.Am.Share

/-
  What functions of chapter 07 compute, outright 10: the law 'ShareFree', joined.
-/
set_option linter.unusedVariables false
set_option linter.unusedSimpArgs false
set_option maxRecDepth 10000
set_option maxHeartbeats 400000
namespace Go.Am.Share
open Go.Am.G

end Go.Am.Share

/-
  What functions of chapter 07 compute, outright 11: a better division; proper ones.
-/
set_option linter.unusedVariables false
set_option linter.unusedSimpArgs false
set_option maxRecDepth 10000
set_option maxHeartbeats 400000
namespace Go.Am.Share
open Go.Am.G

end Go.Am.Share


