import Derived.Test.YtcckhkcchpfdoaaShareL
import Derived.Test.YtcckhkcchpfdoaaLm10
import Derived.KernelRfl
import Derived.Test.YtcckhkcchpfdoaaShareC9
set_option maxRecDepth 100000
namespace Go.Am.Share
theorem works_run : isTrueL (callL LP 2000 n_law07_works [] []) = true := by kernel_rfl
theorem works_c (m : LMem) : clF LP n_law07_works [] m = some (.P,.bool true,m) := call_run lp_law07_works rfl works_run m
end Go.Am.Share
set_option linter.unusedVariables false
set_option linter.unusedSimpArgs false
set_option maxRecDepth 10000
namespace Go.Am.Share
end Go.Am.Share
namespace Go.Am.Share
end Go.Am.Share
set_option linter.unusedVariables false
set_option linter.unusedSimpArgs false
set_option maxRecDepth 10000
namespace Go.Am.Share
abbrev ints (l : List Int) : List LV := l.map (LV.int .i64)
end Go.Am.Share
set_option linter.unusedVariables false
set_option linter.unusedSimpArgs false
set_option maxRecDepth 10000
namespace Go.Am
theorem freeze_nil (m : LMem) : freeze [] m = m := by
  unfold freeze; simp
theorem call_O {C : LProg} {f : Nat} {lf : LFunc} (hC : C f = some lf) (hm : lf.mode = .O) {args : List LV} (hp : LV.pures args = true) {v : LV} {m1 : LMem} (h : retL lf.results (exF C lf.body (LEnv.ofFrom 0 args) []) = some (v,m1)) (m : LMem) :
    clF C f args m = some (.O,v.shift m.length,m ++ m1.map fun b => ⟨LV.shifts m.length b.cells,b.own⟩) := by
  rw [clF_eq,hC]
  simp only [callMode,hm,views_pures m args hp,h,freeze_nil]
  cases newOnly v m1 <;> rfl
namespace Share
end Share
end Go.Am
