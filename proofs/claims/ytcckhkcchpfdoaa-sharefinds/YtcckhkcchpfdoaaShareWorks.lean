/-
  The examples of chapter 07 hold: the list machine's run, evaluated by the kernel.
-/
import Derived.Test.YtcckhkcchpfdoaaShareL
import Derived.Test.YtcckhkcchpfdoaaLm10
import Derived.KernelRfl
set_option maxRecDepth 100000
namespace Go.Am.Share
theorem works_run : isTrueL (callL LP 2000 n_law07_works [] []) = true := by kernel_rfl
theorem works_c (m : LMem) : clF LP n_law07_works [] m = some (.P, .bool true, m) := call_run lp_law07_works rfl works_run m
end Go.Am.Share

