/-
  What functions of chapter 07 compute, 14: an order of finders.
-/
import Derived.Test.YtcckhkcchpfdoaaShareWorks
set_option linter.unusedVariables false
set_option linter.unusedSimpArgs false
set_option maxRecDepth 10000
namespace Go.Am
namespace Share
end Share
end Go.Am
