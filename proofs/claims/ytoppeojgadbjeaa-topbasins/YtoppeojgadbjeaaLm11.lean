/-
  THE LIST MACHINE, 11: views, lists that grow, lists of lists, calls: more rules. No statement of the seat is proved here.
-/
import Derived.Test.YtoppeojgadbjeaaLm10
import Derived.KernelRfl
set_option linter.unusedVariables false
set_option linter.unusedSimpArgs false
namespace Go.Am.G
variable [Glo]
omit [Glo] in
theorem freeze_nil (m : LMem) : freeze [] m = m := by
  unfold freeze; simp
theorem call_W {C : LProg} {f : Nat} {lf : LFunc} (hC : C f = some lf) (hm : lf.mode = .W) {args : List LV} {m : LMem} {v : LV} {m1 : LMem} (h : retL lf.results (exF C lf.body (LEnv.ofFrom 0 args) m) = some (v,m1)) :
    clF C f args m = some (.W,v,trim m.length [v] m1) := by
  rw [clF_eq,hC]
  simp only [callMode,hm,h]
omit [Glo] in
theorem set_int (k : IntKind) (l : List Int) (i : Nat) (x : Int) (h : i < l.length) : (l.map (LV.int k)).take i ++ [.int k x] ++ (l.map (LV.int k)).drop (i + 1) = (l.set i x).map (LV.int k) := by
  rw [List.map_set,List.set_eq_take_append_cons_drop,if_pos (by simpa using h)]
  simp
omit [Glo] in
theorem views_two (k : Nat) (m : LMem) (a b a' : LV) (ids : List Nat) (h : ∀ k,view (k + 3) m a = some (a',ids)) (hb : b.pure = true) (hn : LV.pures [a,b] = false) : viewL (k + 8) m [a,b] = some ([a',b],ids) := by
  rw [viewL.eq_def]
  simp only [hn,cond_false]
  rw [viewC.eq_def]
  simp only [h]
  rw [viewC.eq_def]
  simp only [view_pure _ _ b hb]
  rw [viewC.eq_def]
  simp
omit [Glo] in
theorem views_one (k : Nat) (m : LMem) (a a' : LV) (ids : List Nat) (h : ∀ k,view (k + 3) m a = some (a',ids)) (hn : LV.pures [a] = false) : viewL (k + 8) m [a] = some ([a'],ids) := by
  rw [viewL.eq_def]
  simp only [hn,cond_false]
  rw [viewC.eq_def]
  simp only [h]
  rw [viewC.eq_def]
  simp
omit [Glo] in
theorem views_snd (k : Nat) (m : LMem) (a b b' : LV) (ids : List Nat) (h : ∀ k,view (k + 3) m b = some (b',ids)) (ha : a.pure = true) (hn : LV.pures [a,b] = false) : viewL (k + 8) m [a,b] = some ([a,b'],ids) := by
  rw [viewL.eq_def]
  simp only [hn,cond_false]
  rw [viewC.eq_def]
  simp only [view_pure _ _ a ha]
  rw [viewC.eq_def]
  simp only [h]
  rw [viewC.eq_def]
  simp
omit [Glo] in
theorem view_tup2 (m : LMem) (a b a' : LV) (ids : List Nat) (h : ∀ k,view (k + 3) m a = some (a',ids)) (hb : b.pure = true) (hn : LV.pures [a,b] = false) : view 100 m (.tup [a,b]) = some (.tup [a',b],ids) := by
  rw [view.eq_def]
  simp only [views_two 91 m a b a' ids h hb hn]
omit [Glo] in
theorem view_slc (k : Nat) (m : LMem) (i p n L g c sz : Nat) (cs : List LV) (b : Bool) (h : m[i]? = some ⟨cs,b⟩) (hpu : LV.pures ((cs.drop p).take (n * sz)) = true) (hL : cs.length = L) (hp : p + n * sz ≤ L) (hc : n ≤ c) : view (k + 3) m (.sl i p n c g sz L) = some (.lst false (Nat.beq g 0 && Nat.beq c n) sz n ((cs.drop p).take (n * sz)),[i]) := by
  simp only [view,h,viewL_pures _ _ _ hpu]
  simp [nbeq,nble,hL,hp,hc]
omit [Glo] in
theorem view_sl (k : Nat) (m : LMem) (i p n L g : Nat) (cs : List Int) (b : Bool) (h : m[i]? = some ⟨cs.map (LV.int .i64),b⟩) (hL : cs.length = L) (hp : p + n ≤ L) (c : Nat) (hc : n ≤ c) : view (k + 3) m (.sl i p n c g 1 L) = some (IL false (Nat.beq g 0 && Nat.beq c n) 1 ((cs.drop p).take n),[i]) := by
  have h2 : ((cs.map (LV.int .i64)).drop p).take (n * 1) = ((cs.drop p).take n).map (LV.int .i64) := by simp [List.map_take,List.map_drop]
  simp only [view,h,h2,viewL_pures _ _ _ (pures_int .i64 _)]
  have : ((cs.drop p).take n).length = n := by simp; omega
  simp [nbeq,nble,hL,hp,hc,this]
omit [Glo] in
theorem view_gv (k : Nat) (m : LMem) (i : Nat) (l : List Int) (b : Bool) (h : l ≠ [] → m[i]? = some ⟨l.map (LV.int .i64),b⟩) : view (k + 3) m (GV i l) = some (RL l,if l = [] then [] else [i]) := by
  by_cases hl : l = []
  · subst hl; rfl
  · have h1 := h hl
    simp only [GV,if_neg hl,view,h1]
    have h2 : ((l.map (LV.int .i64)).drop 0).take (l.length * 1) = l.map (LV.int .i64) := by rw [List.drop_zero,List.take_of_length_le (by simp)]
    simp only [h2,viewL_pures _ _ _ (pures_int .i64 l)]
    have hd : decide (l = []) = false := by simpa using hl
    have hpos : ¬ l.length = 0 := by simpa using hl
    simp [hd,nbeq,nble]
omit [Glo] in
theorem zeros_int (k : IntKind) (n : Nat) : zerosL [.int k 0] n = (List.replicate n (0 : Int)).map (LV.int k) := by
  unfold zerosL
  apply List.ext_getElem (by simp)
  intro i h1 h2
  simp [Nat.mod_one]
omit [Glo] in
theorem tmod_nat (a b : Nat) : Int.tmod (a : Int) (b : Int) = ((a % b : Nat) : Int) := by
  rfl
theorem call_ran {C : LProg} {f n : Nat} {lf : LFunc} (hC : C f = some lf) (hm : lf.mode = .P) {args : List LV} (hp : LV.pures args = true) {v : LV} {m' : LMem} (h : callL C n f args [] = some (.P,v,m')) (m : LMem) : clF C f args m = some (.P,v,m) := by
  have h2 : clF C f args [] = some (.P,v,m') := clF_some.2 ⟨n,h⟩
  rw [clF_eq,hC] at h2 ⊢
  simp only [callMode,hm,views_pures _ args hp] at h2 ⊢
  split at h2
  · split at h2
    · simp only [Option.some.injEq,Prod.mk.injEq,List.isEmpty_nil,Bool.true_or,cond_true] at h2 ⊢
      exact ⟨trivial,h2.2.1,trivial⟩
    · cases h2
  · cases h2
omit [Glo] in
theorem views_snd8 (k : Nat) (m : LMem) (a b b' : LV) (ids : List Nat) (h : ∀ k,view (k + 8) m b = some (b',ids)) (ha : a.pure = true) (hn : LV.pures [a,b] = false) : viewL (k + 16) m [a,b] = some ([a,b'],ids) := by
  rw [viewL.eq_def]
  simp only [hn,cond_false]
  rw [viewC.eq_def]
  simp only [view_pure _ _ a ha]
  rw [viewC.eq_def]
  simp only [h]
  rw [viewC.eq_def]
  simp
end Go.Am.G
