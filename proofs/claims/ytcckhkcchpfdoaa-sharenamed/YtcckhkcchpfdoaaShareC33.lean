import Derived.Test.YtcckhkcchpfdoaaShareC31
set_option linter.unusedVariables false
set_option linter.unusedSimpArgs false
set_option maxRecDepth 10000
namespace Go.Am.Share
end Go.Am.Share
set_option linter.unusedVariables false
set_option linter.unusedSimpArgs false
set_option maxRecDepth 10000
namespace Go.Am.Share
end Go.Am.Share
set_option linter.unusedVariables false
set_option linter.unusedSimpArgs false
set_option maxRecDepth 10000
namespace Go.Am
namespace Share
def histM (V : LV) (L : Nat) : List (List Int) → LMem
  | [] => []
  | q :: h => histM V L h ++ (if L = 0 then [] else [⟨[V,SLo 5 L],true⟩,⟨q.map (LV.int .i64),true⟩])
def ownM (L : Nat) (h : List (List Int)) : Bool := match h with | [] => true | _ :: _ => decide (L ≠ 0)
def RR (V : LV) (L : Nat) (h : List (List Int)) (o : List Int) : LMem := [⟨[.func n_share_Most_1 [] [.ptr 1 0 1,.ptr 2 0 1,.ptr 0 0 1]],true⟩,⟨[V,SLo 5 L],true⟩,⟨o.map (LV.int .i64),ownM L h⟩,⟨[V,SLo 5 L],true⟩,⟨[PUT 3],true⟩] ++ histM V L h
end Share
end Go.Am
