/-
  THE LIST MACHINE, 12: cells of things that lie one after the other. No statement of the seat is proved here.
-/
import Derived.Test.YtoppeojgadbjeaaLm11
set_option linter.unusedVariables false
set_option linter.unusedSimpArgs false
namespace Go.Am.G
variable [Glo]
variable {α : Type} (f : α → List LV) (sz : Nat)
end Go.Am.G
