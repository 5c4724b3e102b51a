import Derived.Test.YtcckhkcchpfdoaaShareC16
set_option linter.unusedVariables false
set_option linter.unusedSimpArgs false
set_option maxRecDepth 10000
namespace Go.Am.Share
end Go.Am.Share
set_option linter.unusedVariables false
set_option linter.unusedSimpArgs false
set_option maxRecDepth 10000
namespace Go.Am
theorem views_one (k : Nat) (m : LMem) (a a' : LV) (ids : List Nat) (h : ∀ k,view (k + 3) m a = some (a',ids)) (hn : LV.pures [a] = false) : viewL (k + 8) m [a] = some ([a'],ids) := by
  rw [viewL.eq_def]
  simp only [hn,cond_false]
  rw [viewC.eq_def]
  simp only [h]
  rw [viewC.eq_def]
  simp
theorem view_sl (k : Nat) (m : LMem) (i p n L g : Nat) (cs : List Int) (b : Bool) (h : m[i]? = some ⟨cs.map (LV.int .i64),b⟩) (hL : cs.length = L) (hp : p + n ≤ L) (c : Nat) (hc : n ≤ c) : view (k + 3) m (.sl i p n c g 1 L) = some (IL false (Nat.beq g 0 && Nat.beq c n) 1 ((cs.drop p).take n),[i]) := by
  have h2 : ((cs.map (LV.int .i64)).drop p).take (n * 1) = ((cs.drop p).take n).map (LV.int .i64) := by simp [List.map_take,List.map_drop]
  simp only [view,h,h2,viewL_pures _ _ _ (pures_int .i64 _)]
  have : ((cs.drop p).take n).length = n := by simp; omega
  simp [nbeq,nble,hL,hp,hc,this]
theorem view_gv (k : Nat) (m : LMem) (i : Nat) (l : List Int) (h : l ≠ [] → m[i]? = some ⟨l.map (LV.int .i64),true⟩) : view (k + 3) m (GV i l) = some (RL l,if l = [] then [] else [i]) := by
  by_cases hl : l = []
  · subst hl; rfl
  · have h1 := h hl
    simp only [GV,if_neg hl,view,h1]
    have h2 : ((l.map (LV.int .i64)).drop 0).take (l.length * 1) = l.map (LV.int .i64) := by rw [List.drop_zero,List.take_of_length_le (by simp)]
    simp only [h2,viewL_pures _ _ _ (pures_int .i64 l)]
    have hd : decide (l = []) = false := by simpa using hl
    have hpos : ¬ l.length = 0 := by simpa using hl
    simp [hd,nbeq,nble]
end Go.Am
namespace Go.Am.Share
end Go.Am.Share
set_option linter.unusedVariables false
set_option linter.unusedSimpArgs false
set_option maxRecDepth 10000
namespace Go.Am.Share
def runV {σ : Type} (vis : σ → List Int → σ × Bool) : σ → List (List Int) → σ × Bool
  | s,[] => (s,true)
  | s,x :: xs => if (vis s x).2 then runV vis (vis s x).1 xs else ((vis s x).1,false)
structure Vis (σ : Type) (V : LV) (N L : Nat) where
  mem : σ → List Int → LMem
  vis : σ → List Int → σ × Bool
  good : σ → Prop
  f : Nat
  first : List LV
  cap : List LV
  d : Nat
  b : Nat
  iv : Nat
  ip : Nat
  hd : ∀ s o,o.length = L → (mem s o)[d]? = some ⟨[V,SLo b L],true⟩
  own : σ → Bool
  hown : ∀ s,0 < L → own s = true
  hb : ∀ s o,o.length = L → (mem s o)[b]? = some ⟨o.map (LV.int .i64),own s⟩
  hv : ∀ s o,o.length = L → (mem s o)[iv]? = some ⟨[.func f first cap],true⟩
  hp : ∀ s o,o.length = L → (mem s o)[ip]? = some ⟨[.func n_share_each_1 [] [.ptr d 0 2,.ptr iv 0 1,.ptr ip 0 1]],true⟩
  hset : ∀ s o k x,o.length = L → k < L → (mem s o).set b ⟨(o.set k x).map (LV.int .i64),true⟩ = mem s (o.set k x)
  htrim : ∀ s l o o' c,good s → o.length = L → o'.length = L → trim (mem s o).length [.bool c] (mem (runV vis s l).1 o') = mem (runV vis s l).1 o'
  hvis : ∀ s o,good s → o.length = L → clF LP f (first ++ ([.agg [V,SLo b L]] ++ cap)) (mem s o) = some (.W,.bool (vis s o).2,mem (vis s o).1 o)
  hgood : ∀ s o,good s → o.length = L → (vis s o).2 = true → good (vis s o).1
end Go.Am.Share
