import Derived.Test.YtcckhkcchpfdoaaShareC17
import Derived.Test.YtcckhkcchpfdoaaShareWorks
/-
  What functions of chapter 07 compute, 26: the reference's list of all divisions.
-/
set_option linter.unusedVariables false
set_option linter.unusedSimpArgs false
set_option maxRecDepth 10000
namespace Go.Am.Share
end Go.Am.Share

/-
  What functions of chapter 07 compute, 25: fair divisions are counted.
-/
set_option linter.unusedVariables false
set_option linter.unusedSimpArgs false
set_option maxRecDepth 10000
namespace Go.Am.Share
end Go.Am.Share


