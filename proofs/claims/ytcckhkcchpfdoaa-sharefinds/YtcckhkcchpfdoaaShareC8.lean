/-
  What functions of chapter 07 compute, 8: who envies whom, how fair it is, and why (the program's).
-/
import Derived.Test.YtcckhkcchpfdoaaShareC7
set_option linter.unusedVariables false
set_option linter.unusedSimpArgs false
set_option maxRecDepth 10000
namespace Go.Am.Share

/-- What is asked of lists that come in. -/
structure In (rs : List Row) (nl' : Bool) (sz' : Nat) (o : List Int) : Prop where
  hl : rs.length < 1000000
  hr : ∀ r ∈ rs, r.l.length < 1000000
  ho : o.length < 1000000
  hsz : o = [] ∨ sz' = 1
  hnl : nl' = true → o = []

def fairV (V : List (List Int)) (o : List Int) : Int := if divE V o ≠ 0 then 0 else if PX V o ≠ [] then 0 else if PW V o ≠ [] then 1 else 2
end Go.Am.Share

