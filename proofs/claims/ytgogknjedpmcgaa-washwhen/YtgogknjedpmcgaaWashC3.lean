/-
  What functions of chapter 13 compute, 3: how many rings of each length; the reference's rings.
-/
import Derived.Test.YtgogknjedpmcgaaWashC2
set_option linter.unusedVariables false
set_option linter.unusedSimpArgs false
set_option maxRecDepth 10000
namespace Go.Am.Wash
open Go.Am.G

def cnt (R : List (List Nat)) (x : Nat) : Nat := (R.filter fun l => decide (l.length = x)).length
end Go.Am.Wash

