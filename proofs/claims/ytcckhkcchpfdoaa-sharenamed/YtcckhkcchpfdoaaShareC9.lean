/-
  What functions of chapter 07 compute, 9: who envies whom, how fair it is, and why (the reference's).
-/
import Derived.Test.YtcckhkcchpfdoaaShareC6
set_option linter.unusedVariables false
set_option linter.unusedSimpArgs false
set_option maxRecDepth 10000
namespace Go.Am.Share
end Go.Am.Share
