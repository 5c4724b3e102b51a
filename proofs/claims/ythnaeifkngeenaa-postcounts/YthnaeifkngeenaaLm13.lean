/-
  THE LIST MACHINE, 13: bits; lists that grow in any memory. No statement of the seat is proved here.
-/
import Derived.Test.YthnaeifkngeenaaLm12
set_option linter.unusedVariables false
set_option linter.unusedSimpArgs false
namespace Go.Am.G
end Go.Am.G

