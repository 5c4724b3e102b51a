import Derived.Test.YtheppipmnfjdcaaDoorRdE00
import Derived.Test.YtheppipmnfjdcaaDoorRdE7
import Derived.Test.YtheppipmnfjdcaaDoorRdP9
import Derived.Test.YtheppipmnfjdcaaDoorRdP10
import Derived.Test.YtheppipmnfjdcaaDoorRdC14
import Derived.Test.YtheppipmnfjdcaaDoorRdD1
set_option linter.unusedVariables false
set_option linter.unusedSimpArgs false
set_option maxRecDepth 10000
set_option maxHeartbeats 1000000
namespace Go.Am.Ring
open Go.Am.G
theorem view_ord {m : LMem} {i : Nat} {o : List Nat} {w : Bool} (h : m[i]? = some ⟨ints (ci o),w⟩) (n : Nat) (hn : o.length = n) (k : Nat) : view (k + 3) m (.sl i 0 n n 1 1 n) = some (IL false false 1 (ci o),[i]) := by
  have := view_sl k m i 0 n n 1 (ci o) w h (by rw [ci_len,hn]) (by omega) n (Nat.le_refl _)
  rw [List.drop_zero,List.take_of_length_le (by rw [ci_len]; omega)] at this
  exact this
end Go.Am.Ring
set_option linter.unusedVariables false
set_option linter.unusedSimpArgs false
set_option maxRecDepth 10000
set_option maxHeartbeats 1000000
namespace Go.Am.Ring
open Go.Am.G
theorem views2 {m : LMem} {x v v' : LV} {ids : List Nat} (h : ∀ k,view (k + 3) m v = some (v',ids)) (hx : x.pure = true) (hv : v.pure = false) : views m [x,v] = some ([x,v'],ids) := by
  show viewL 100 m _ = _
  rw [viewL.eq_def]
  simp only [show LV.pures [x,v] = false by simp [LV.pures,hv],cond_false]
  rw [viewC.eq_def]
  simp only [view_pure 96 m x hx]
  rw [viewC.eq_def]
  simp only [h 94]
  rw [viewC.eq_def]
  simp only [List.append_nil,List.nil_append]
def fewB (P : List (Nat × Nat)) (B : List (List Nat)) : Nat := if B = [] then 100 else contr P (B.headD [])
def tabB (B : List (List Nat)) : List Bool := if B = [] then List.replicate 36 false else surC B
structure BI (n : Nat) (P : List (Nat × Nat)) (fv : LV) (s : Nat × List (List Nat)) (O : List Nat) (m : LMem) : Prop where
  ok : ∀ o ∈ s.2,o ∈ ords n
  len : s.2.length ≤ s.1
  c1 : m[1]? = some ⟨[.int .i64 (n : Int)],true⟩
  c2 : m[2]? = some ⟨[fv],true⟩
  c3 : m[3]? = some ⟨[.int .i64 ((fewB P s.2 : Nat) : Int)],true⟩
  c4 : m[4]? = some ⟨[.int .i64 (s.2.length : Int)],true⟩
  c6 : m[6]? = some ⟨bools (tabB s.2),true⟩
  c7 : m[7]? = some ⟨[.bool true],true⟩
  c8 : m[8]? = some ⟨[.int .i64 (s.1 : Int)],true⟩
  c5 : (s.2 = [] ∧ m[5]? = some ⟨[.lst true true 0 0 []],true⟩ ∧ O = [1,2,3,4,5,6,7,8]) ∨ (s.2 ≠ [] ∧ ∃ br w,8 < br ∧ m[5]? = some ⟨[.sl br 0 n n 1 1 n],true⟩ ∧ m[br]? = some ⟨ints (ci (s.2.headD [])),w⟩ ∧ O = [1,2,3,4,5,6,7,8,br])
theorem BI.mem {n : Nat} {P : List (Nat × Nat)} {fv : LV} {s : Nat × List (List Nat)} {O : List Nat} {m : LMem} (h : BI n P fv s O m) : ∀ i ∈ [1,2,3,4,5,6,7,8],i ∈ O := by
  intro i hi
  rcases h.c5 with ⟨_,_,rfl⟩ | ⟨_,br,w,_,_,_,rfl⟩
  · exact hi
  · have : [1,2,3,4,5,6,7,8,br] = [1,2,3,4,5,6,7,8] ++ [br] := rfl
    rw [this]; exact List.mem_append_left _ hi
theorem BI.at {n : Nat} {P : List (Nat × Nat)} {fv : LV} {s : Nat × List (List Nat)} {O : List Nat} {m m' : LMem} (h : BI n P fv s O m) (e : ∀ i ∈ O,m'[i]? = m[i]?) : BI n P fv s O m' := by
  have hm := h.mem
  refine ⟨h.ok,h.len,by rw [e 1 (hm 1 (by simp))]; exact h.c1,by rw [e 2 (hm 2 (by simp))]; exact h.c2,by rw [e 3 (hm 3 (by simp))]; exact h.c3,by rw [e 4 (hm 4 (by simp))]; exact h.c4,by rw [e 6 (hm 6 (by simp))]; exact h.c6,by rw [e 7 (hm 7 (by simp))]; exact h.c7,by rw [e 8 (hm 8 (by simp))]; exact h.c8,?_⟩
  rcases h.c5 with ⟨h1,h2,h3⟩ | ⟨h1,br,w,h2,h3,h4,h5⟩
  · exact .inl ⟨h1,by rw [e 5 (hm 5 (by simp))]; exact h2,h3⟩
  · exact .inr ⟨h1,br,w,h2,by rw [e 5 (hm 5 (by simp))]; exact h3,by rw [e br (by rw [h5]; simp)]; exact h4,h5⟩
theorem BI.lt {n : Nat} {P : List (Nat × Nat)} {fv : LV} {s : Nat × List (List Nat)} {O : List Nat} {m : LMem} (h : BI n P fv s O m) : ∀ i ∈ O,i < m.length := by
  have h8 := get_lt h.c8
  intro i hi
  rcases h.c5 with ⟨_,_,rfl⟩ | ⟨_,br,w,_,_,h4,rfl⟩
  · simp at hi; omega
  · have := get_lt h4
    simp at hi; omega
theorem Exn.setq {m m1 : LMem} {O : List Nat} (h : Exn m m1 O) {j : Nat} {b : LBlk} (hj : j ∈ O) (hq : m.length < m1.length) (hb : ∀ i,i ≠ m.length → LV.noRefs i b.cells = true) : Exn m (m1.set j b) O :=
  ⟨by simpa using h.len,fun i hi hn => by
    have : ¬ j = i := fun e => hn (e ▸ hj)
    rw [List.getElem?_set_ne this,h.keep i hi hn],fun i hi hN => (h.nr i hi hN).set (hb i (by omega)),fun hC i hi => by
    rw [List.length_set] at hi
    exact (h.cl hC i hi).set (hb i (by omega))⟩
def cFst : LCode → LCode | .seq a _ => a | c => c
def cSnd : LCode → LCode | .seq _ b => b | c => c
end Go.Am.Ring
set_option linter.unusedVariables false
set_option linter.unusedSimpArgs false
namespace Go.Am.Ring
open Go.Am.G
section
variable {R : List (List Nat)} {L : Nat} (hne : ∀ q ∈ R,q ≠ []) (hlt : ∀ q ∈ R,∀ x ∈ q,x < L)
include hne hlt
end
end Go.Am.Ring
set_option linter.unusedVariables false
set_option linter.unusedSimpArgs false
namespace Go.Am.Ring
open Go.Am.G
end Go.Am.Ring
set_option linter.unusedVariables false
set_option linter.unusedSimpArgs false
namespace Go.Am.Ring
open Go.Am.G
end Go.Am.Ring
