import Derived.Test.YtcckhkcchpfdoaaShareC17
import Derived.Test.YtcckhkcchpfdoaaShareWorks
/-
  What functions of chapter 07 compute, 26: the reference's list of all divisions.
-/
set_option linter.unusedVariables false
set_option linter.unusedSimpArgs false
set_option maxRecDepth 10000
namespace Go.Am.Share
end Go.Am.Share

/-
  What functions of chapter 07 compute, 25: fair divisions are counted.
-/
set_option linter.unusedVariables false
set_option linter.unusedSimpArgs false
set_option maxRecDepth 10000
namespace Go.Am.Share
end Go.Am.Share

/-
  What functions of chapter 07 compute, 27: the reference's fair divisions.
-/
set_option linter.unusedVariables false
set_option linter.unusedSimpArgs false
set_option maxRecDepth 10000
namespace Go.Am.Share
end Go.Am.Share

/-
  What functions of chapter 07 compute, 28: fair divisions are counted and found by the reference; all divisions in order.
-/
set_option linter.unusedVariables false
set_option linter.unusedSimpArgs false
set_option maxRecDepth 10000
namespace Go.Am.Share
end Go.Am.Share

/-
  What functions of chapter 07 compute, 29: the program's first fair division.
-/
set_option linter.unusedVariables false
set_option linter.unusedSimpArgs false
set_option maxRecDepth 10000
namespace Go.Am.Share
end Go.Am.Share

/-
  What functions of chapter 07 compute, 30: the program's first fair division, handed back; own worths; products.
-/
set_option linter.unusedVariables false
set_option linter.unusedSimpArgs false
set_option maxRecDepth 10000
namespace Go.Am.Share
end Go.Am.Share


