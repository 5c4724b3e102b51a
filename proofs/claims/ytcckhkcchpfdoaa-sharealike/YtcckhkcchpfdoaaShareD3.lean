/-
  What functions of chapter 07 compute, outright 3: envy, and how fair a division is.
-/
import Derived.Test.YtcckhkcchpfdoaaShareD1
set_option linter.unusedVariables false
set_option linter.unusedSimpArgs false
set_option maxRecDepth 10000
set_option maxHeartbeats 400000
namespace Go.Am.Share
open Go.Am.G
end Go.Am.Share
