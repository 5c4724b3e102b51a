/-
  THE LIST MACHINE, 13: bits; lists that grow in any memory. No statement of the seat is proved here.
-/
import Derived.Test.YtcckhkcchpfdoaaLm12
set_option linter.unusedVariables false
set_option linter.unusedSimpArgs false
namespace Go.Am.G
variable [Glo]
end Go.Am.G
