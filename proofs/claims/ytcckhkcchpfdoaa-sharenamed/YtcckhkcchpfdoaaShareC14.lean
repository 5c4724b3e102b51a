import Derived.Test.YtcckhkcchpfdoaaShareWorks
set_option linter.unusedVariables false
set_option linter.unusedSimpArgs false
set_option maxRecDepth 10000
namespace Go.Am
namespace Share
end Share
end Go.Am
set_option linter.unusedVariables false
set_option linter.unusedSimpArgs false
set_option maxRecDepth 10000
namespace Go.Am
theorem set_int (k : IntKind) (l : List Int) (i : Nat) (x : Int) (h : i < l.length) : (l.map (LV.int k)).take i ++ [.int k x] ++ (l.map (LV.int k)).drop (i + 1) = (l.set i x).map (LV.int k) := by
  rw [List.map_set,List.set_eq_take_append_cons_drop,if_pos (by simpa using h)]
  simp
namespace Share
def pk : List Int → List Int → Nat → Nat × Int → Nat × Int
  | r :: rs,o :: os,k,a => pk rs os (k + 1) (if o = -1 ∧ a.2 < r then (k,r) else a)
  | _,_,_,a => a
abbrev SLo (b L : Nat) : LV := .sl b 0 L L 0 1 L
end Share
end Go.Am
