/-
  THE LIST MACHINE, 2: how its values and memory stand to the abstract machine's.
-/
import Derived.Test.YtoppeojgadbjeaaLm1
set_option linter.unusedVariables false
namespace Go.Am
structure Sit where
  lm : LMem
  am : Mem
  ρ : Nat → Nat
  A : Nat → Prop
def okL (lm : LMem) (i L : Nat) : Prop := ∃ b,lm[i]? = some b ∧ b.cells.length = L
def Evo (a b : Nat) : Prop := (a = 0 → b = 0) ∧ (a ≤ b ∨ b = 0)
theorem Evo.refl (a : Nat) : Evo a a := ⟨id,.inl (Nat.le_refl _)⟩
theorem Evo.trans {a b c : Nat} (h : Evo a b) (k : Evo b c) : Evo a c := by
  obtain ⟨h1,h2⟩ := h
  obtain ⟨k1,k2⟩ := k
  refine ⟨fun e => k1 (h1 e),?_⟩
  rcases h2 with h2 | h2
  · rcases k2 with k2 | k2
    · exact .inl (by omega)
    · exact .inr k2
  · exact .inr (k1 h2)
def leL (lm : LMem) (i L : Nat) : Prop := ∃ b,lm[i]? = some b ∧ (b.cells.length = 0 ∨ (0 < L ∧ L ≤ b.cells.length))
theorem leL_eq {lm : LMem} {i : Nat} {b : LBlk} (h : lm[i]? = some b) {L : Nat} (hL : b.cells.length = L) : leL lm i L := ⟨b,h,by omega⟩
mutual
inductive LR (s : Sit) : LV → AV → Prop
  | undef (a : AV) : LR s .undef a
  | bool (b : Bool) : LR s (.bool b) (.bool b)
  | int (k : IntKind) (n : Int) : LR s (.int k n) (.int k n)
  | nilptr : LR s .nilptr .nilptr
  | nilFunc : LR s .nilFunc .nilFunc
  | nilIface : LR s .nilIface .nilIface
  | map {i b : Nat} (hl : leL s.lm i 1) (h : okL s.lm i 1 → b = s.ρ i) : LR s (.map i) (.map b)
  | nilmap : LR s .nilmap .nilmap
  | ents {es : List LV} {es' : List AV} (h : LRs s es es') : LR s (.ents es) (.ents es')
  | away {n b : Nat} {v x : LV} {v' x' : AV} (h1 : LR s v v') (h2 : LR s x x') : LR s (.away n b v x) (.away n b v' x')
  | ptr {i o L b : Nat} (hl : leL s.lm i L) (h : okL s.lm i L → b = s.ρ i) : LR s (.ptr i o L) (.ptr b o)
  | sl {i o n cap g sz L b : Nat} (hl : leL s.lm i L) (h : okL s.lm i L → b = s.ρ i) (hg : g = 0 ∨ g = sz) : LR s (.sl i o n cap g sz L) (.slice b o n cap g)
  | nil {ex : Bool} {sz : Nat} : LR s (.lst true ex sz 0 []) .nilslice
  | lst {ex : Bool} {sz n : Nat} {cs : List LV} {b o cap g : Nat} {blk : Blk} (hA : s.A b) (hb : s.am.look b = some blk) (ho : o + n * sz ≤ blk.cells.length) (hc : LRs s cs ((blk.cells.drop o).take (n * sz)))
      (hp : LV.pures cs = true) (hn : n ≤ cap) (hg : g = 0 ∨ g = sz) (hx : ex = true → g = 0 ∧ cap = n) : LR s (.lst false ex sz n cs) (.slice b o n cap g)
  | elt {cs : List LV} {o b p : Nat} {blk : Blk} (hA : s.A b) (hb : s.am.look b = some blk) (ho : p + cs.length ≤ blk.cells.length) (hc : LRs s cs ((blk.cells.drop p).take cs.length)) (hp : LV.pures cs = true) : LR s (.elt cs o) (.ptr b (p + o))
  | func {f : Nat} {a c : List LV} {a' c' : List AV} (h1 : LRs s a a') (h2 : LRs s c c') : LR s (.func f a c) (.func f a' c')
  | agg {cs : List LV} {cs' : List AV} (h : LRs s cs cs') : LR s (.agg cs) (.agg cs')
  | tup {cs : List LV} {cs' : List AV} (h : LRs s cs cs') : LR s (.tup cs) (.tup cs')
inductive LRs (s : Sit) : List LV → List AV → Prop
  | nil : LRs s [] []
  | cons {v : LV} {a : AV} {r : List LV} {t : List AV} (h : LR s v a) (hr : LRs s r t) : LRs s (v :: r) (a :: t)
end
def Owned (s : Sit) (b : Nat) : Prop := ∃ i blk,s.lm[i]? = some blk ∧ blk.own = true ∧ s.ρ i = b
def GOk [Glo] (s : Sit) : Prop := ∀ g l,Glo.tab g = some l → s.A g ∧ s.am.look g = some ⟨l,false⟩
theorem GOk.mono [Glo] {s t : Sit} (h : GOk s) (hA : ∀ b,s.A b → t.A b ∧ t.am.look b = s.am.look b) : GOk t := fun g l hg => by
  obtain ⟨h1,h2⟩ := h g l hg
  exact ⟨(hA g h1).1,(hA g h1).2.trans h2⟩
structure Rel2 [Glo] (s : Sit) : Prop where
  blk : ∀ i b,s.lm[i]? = some b → ∃ ab,s.am.look (s.ρ i) = some ab ∧ LRs s b.cells ab.cells ∧ (b.own = true → ab.own = true ∧ ¬ s.A (s.ρ i)) ∧ (b.own = false → s.A (s.ρ i))
  inj : ∀ i j b b',s.lm[i]? = some b → b.own = true → s.lm[j]? = some b' → s.ρ i = s.ρ j → i = j
  A : ∀ b,s.A b → ∃ ab,s.am.look b = some ab
  next : ∀ b ab,s.am.look b = some ab → b < s.am.next
  glo : GOk s
structure Stp2 (lo : Nat) (s t : Sit) : Prop where
  nxt : s.am.next ≤ t.am.next
  blk : ∀ i b,s.lm[i]? = some b → ∃ b',t.lm[i]? = some b' ∧ Evo b.cells.length b'.cells.length ∧ (b'.cells.length = b.cells.length → t.ρ i = s.ρ i)
  A : ∀ b,s.A b → t.A b ∧ t.am.look b = s.am.look b
  frame : ∀ b,b < lo → ¬ Owned s b → t.am.look b = s.am.look b
  newA : ∀ b,t.A b → s.A b ∨ lo ≤ b ∨ Owned s b
  newOwn : ∀ b,Owned t b → Owned s b ∨ lo ≤ b
theorem Stp2.refl (lo : Nat) (s : Sit) : Stp2 lo s s :=
  ⟨Nat.le_refl _,fun i b h => ⟨b,h,Evo.refl _,fun _ => rfl⟩,fun b h => ⟨h,rfl⟩,fun _ _ _ => rfl,fun b h => .inl h,fun b h => .inl h⟩
theorem Stp2.trans {lo : Nat} {s t u : Sit} (h : Stp2 lo s t) (k : Stp2 lo t u) : Stp2 lo s u where
  nxt := Nat.le_trans h.nxt k.nxt
  blk := fun i b hb => by
    obtain ⟨b1,h1,l1,r1⟩ := h.blk i b hb
    obtain ⟨b2,h2,l2,r2⟩ := k.blk i b1 h1
    have e1 : b2.cells.length = b.cells.length → b1.cells.length = b.cells.length := fun e => by
      obtain ⟨x1,x2⟩ := l1
      obtain ⟨y1,y2⟩ := l2
      rcases x2 with x2 | x2
      · rcases y2 with y2 | y2
        · omega
        · have := x1 (by omega); omega
      · have := y1 x2; omega
    exact ⟨b2,h2,l1.trans l2,fun e => (r2 (by have := e1 e; omega)).trans (r1 (e1 e))⟩
  A := fun b hb => ⟨(k.A b (h.A b hb).1).1,(k.A b (h.A b hb).1).2.trans (h.A b hb).2⟩
  frame := fun b hb ho => by
    have h1 : ¬ Owned t b := fun c => by
      rcases h.newOwn b c with c | c
      · exact ho c
      · omega
    exact (k.frame b hb h1).trans (h.frame b hb ho)
  newA := fun b hb => by
    rcases k.newA b hb with c | c | c
    · exact h.newA b c
    · exact .inr (.inl c)
    · rcases h.newOwn b c with c | c
      · exact .inr (.inr c)
      · exact .inr (.inl c)
  newOwn := fun b hb => by
    rcases k.newOwn b hb with c | c
    · exact h.newOwn b c
    · exact .inr c
theorem Stp2.weak {lo lo' : Nat} {s t : Sit} (hl : lo ≤ lo') (h : Stp2 lo' s t) : Stp2 lo s t where
  nxt := h.nxt
  blk := h.blk
  A := h.A
  frame := fun b hb => h.frame b (by omega)
  newA := fun b hb => by rcases h.newA b hb with c | c | c; exact .inl c; exact .inr (.inl (by omega)); exact .inr (.inr c)
  newOwn := fun b hb => by rcases h.newOwn b hb with c | c; exact .inl c; exact .inr (by omega)
structure Keeps (s t : Sit) : Prop where
  blk : ∀ i b,s.lm[i]? = some b → ∃ b',t.lm[i]? = some b' ∧ Evo b.cells.length b'.cells.length ∧ (b'.cells.length = b.cells.length → t.ρ i = s.ρ i)
  A : ∀ b,s.A b → t.A b ∧ t.am.look b = s.am.look b
theorem Stp2.keeps {lo : Nat} {s t : Sit} (h : Stp2 lo s t) : Keeps s t := ⟨h.blk,h.A⟩
theorem Keeps.le {s t : Sit} (h : Keeps s t) {i L : Nat} (hl : leL s.lm i L) : leL t.lm i L := by
  obtain ⟨b,hb,hL⟩ := hl
  obtain ⟨b',hb',⟨x1,x2⟩,_⟩ := h.blk i b hb
  refine ⟨b',hb',?_⟩
  rcases hL with e | ⟨e,f⟩
  · exact .inl (x1 e)
  · rcases x2 with g | g
    · exact .inr ⟨e,by omega⟩
    · exact .inl g
theorem Keeps.ok {s t : Sit} (h : Keeps s t) {i L : Nat} (hl : leL s.lm i L) (hk : okL t.lm i L) : okL s.lm i L ∧ t.ρ i = s.ρ i := by
  obtain ⟨b,hb,hL⟩ := hl
  obtain ⟨b',hb',hL',hr⟩ := h.blk i b hb
  obtain ⟨b2,h2,e2⟩ := hk
  rw [hb'] at h2
  cases h2
  obtain ⟨x1,x2⟩ := hL'
  have e : b'.cells.length = b.cells.length := by
    rcases hL with e | ⟨e,f⟩
    · have := x1 e; omega
    · rcases x2 with g | g <;> omega
  exact ⟨⟨b,hb,by omega⟩,hr e⟩
mutual
theorem LR.mono {s t : Sit} (hk : Keeps s t) : ∀ {v : LV} {a : AV},LR s v a → LR t v a
  | _,_,.undef a => .undef a
  | _,_,.bool b => .bool b
  | _,_,.int k n => .int k n
  | _,_,.nilptr => .nilptr
  | _,_,.nilFunc => .nilFunc
  | _,_,.nilIface => .nilIface
  | _,_,.map hl h => .map (hk.le hl) fun c => (h (hk.ok hl c).1).trans (hk.ok hl c).2.symm
  | _,_,.nilmap => .nilmap
  | _,_,.ents h => .ents (h.mono hk)
  | _,_,.away h1 h2 => .away (h1.mono hk) (h2.mono hk)
  | _,_,.ptr hl h => .ptr (hk.le hl) fun c => (h (hk.ok hl c).1).trans (hk.ok hl c).2.symm
  | _,_,.sl hl h hg => .sl (hk.le hl) (fun c => (h (hk.ok hl c).1).trans (hk.ok hl c).2.symm) hg
  | _,_,.nil => .nil
  | _,_,.lst hA hb ho hc hp hn hg hx => .lst (hk.A _ hA).1 ((hk.A _ hA).2.trans hb) ho (hc.mono hk) hp hn hg hx
  | _,_,.elt hA hb ho hc hp => .elt (hk.A _ hA).1 ((hk.A _ hA).2.trans hb) ho (hc.mono hk) hp
  | _,_,.func h1 h2 => .func (h1.mono hk) (h2.mono hk)
  | _,_,.agg h => .agg (h.mono hk)
  | _,_,.tup h => .tup (h.mono hk)
theorem LRs.mono {s t : Sit} (hk : Keeps s t) : ∀ {v : List LV} {a : List AV},LRs s v a → LRs t v a
  | _,_,.nil => .nil
  | _,_,.cons h r => .cons (h.mono hk) (r.mono hk)
end
mutual
theorem LR.pure {s t : Sit} (hA : ∀ b,s.A b → t.A b ∧ t.am.look b = s.am.look b) : ∀ {v : LV} {a : AV},LR s v a → v.pure = true → LR t v a
  | _,_,.undef a,_ => .undef a
  | _,_,.bool b,_ => .bool b
  | _,_,.int k n,_ => .int k n
  | _,_,.nilptr,_ => .nilptr
  | _,_,.nilFunc,_ => .nilFunc
  | _,_,.nilIface,_ => .nilIface
  | _,_,.map hl h,e => by simp [LV.pure] at e
  | _,_,.nilmap,_ => .nilmap
  | _,_,.ents h,e => by simp [LV.pure] at e
  | _,_,.away h1 h2,e => by simp [LV.pure] at e
  | _,_,.ptr hl h,e => by simp [LV.pure] at e
  | _,_,.sl hl h hg,e => by simp [LV.pure] at e
  | _,_,.nil,_ => .nil
  | _,_,.lst hb ha ho hc hp hn hg hx,_ => .lst (hA _ hb).1 ((hA _ hb).2.trans ha) ho (hc.pure hA hp) hp hn hg hx
  | _,_,.elt hb ha ho hc hp,_ => .elt (hA _ hb).1 ((hA _ hb).2.trans ha) ho (hc.pure hA hp) hp
  | _,_,.func h1 h2,e => by
    simp only [LV.pure,Bool.and_eq_true] at e
    exact .func (h1.pure hA e.1) (h2.pure hA e.2)
  | _,_,.agg h,e => .agg (h.pure hA (by simpa [LV.pure] using e))
  | _,_,.tup h,e => .tup (h.pure hA (by simpa [LV.pure] using e))
theorem LRs.pure {s t : Sit} (hA : ∀ b,s.A b → t.A b ∧ t.am.look b = s.am.look b) : ∀ {v : List LV} {a : List AV},LRs s v a → LV.pures v = true → LRs t v a
  | _,_,.nil,_ => .nil
  | _,_,.cons h r,e => by
    simp only [LV.pures,Bool.and_eq_true] at e
    exact .cons (h.pure hA e.1) (r.pure hA e.2)
end
mutual
theorem LR.plain {s t : Sit} : ∀ {v : LV} {a : AV},LR s v a → v.plain = true → LR t v a
  | _,_,.undef a,e => by simp [LV.plain] at e
  | _,_,.bool b,_ => .bool b
  | _,_,.int k n,_ => .int k n
  | _,_,.nilptr,_ => .nilptr
  | _,_,.nilFunc,_ => .nilFunc
  | _,_,.nilIface,_ => .nilIface
  | _,_,.map hl h,e => by simp [LV.plain] at e
  | _,_,.nilmap,_ => .nilmap
  | _,_,.ents h,e => by simp [LV.plain] at e
  | _,_,.away h1 h2,e => by simp [LV.plain] at e
  | _,_,.ptr hl h,e => by simp [LV.plain] at e
  | _,_,.sl hl h hg,e => by simp [LV.plain] at e
  | _,_,.nil,e => by simp [LV.plain] at e
  | _,_,.lst hb ha ho hc hp hn hg hx,e => by simp [LV.plain] at e
  | _,_,.elt hb ha ho hc hp,e => by simp [LV.plain] at e
  | _,_,.func h1 h2,e => by simp [LV.plain] at e
  | _,_,.agg h,e => .agg (h.plain (by simpa [LV.plain] using e))
  | _,_,.tup h,e => .tup (h.plain (by simpa [LV.plain] using e))
theorem LRs.plain {s t : Sit} : ∀ {v : List LV} {a : List AV},LRs s v a → LV.plains v = true → LRs t v a
  | _,_,.nil,_ => .nil
  | _,_,.cons h r,e => by
    simp only [LV.plains,Bool.and_eq_true] at e
    exact .cons (h.plain e.1) (r.plain e.2)
end
mutual
theorem LR.solid {s t : Sit} (hm : t.lm = s.lm) (hr : t.ρ = s.ρ) : ∀ {v : LV} {a : AV},LR s v a → v.solid = true → LR t v a
  | _,_,.undef a,e => by simp [LV.solid] at e
  | _,_,.bool b,_ => .bool b
  | _,_,.int k n,_ => .int k n
  | _,_,.nilptr,_ => .nilptr
  | _,_,.nilFunc,_ => .nilFunc
  | _,_,.nilIface,_ => .nilIface
  | _,_,.map hl h,_ => .map (by rw [hm]; exact hl) (by rw [hm,hr]; exact h)
  | _,_,.nilmap,_ => .nilmap
  | _,_,.ents h,e => .ents (h.solid hm hr (by simpa [LV.solid] using e))
  | _,_,.away h1 h2,e => by
    simp only [LV.solid,Bool.and_eq_true] at e
    exact .away (h1.solid hm hr e.1) (h2.solid hm hr e.2)
  | _,_,.ptr hl h,_ => .ptr (by rw [hm]; exact hl) (by rw [hm,hr]; exact h)
  | _,_,.sl hl h hg,_ => .sl (by rw [hm]; exact hl) (by rw [hm,hr]; exact h) hg
  | _,_,.nil,_ => .nil
  | _,_,.lst hb ha ho hc hp hn hg hx,e => by simp [LV.solid] at e
  | _,_,.elt hb ha ho hc hp,e => by simp [LV.solid] at e
  | _,_,.func h1 h2,e => by
    simp only [LV.solid,Bool.and_eq_true] at e
    exact .func (h1.solid hm hr e.1) (h2.solid hm hr e.2)
  | _,_,.agg h,e => .agg (h.solid hm hr (by simpa [LV.solid] using e))
  | _,_,.tup h,e => .tup (h.solid hm hr (by simpa [LV.solid] using e))
theorem LRs.solid {s t : Sit} (hm : t.lm = s.lm) (hr : t.ρ = s.ρ) : ∀ {v : List LV} {a : List AV},LRs s v a → LV.solids v = true → LRs t v a
  | _,_,.nil,_ => .nil
  | _,_,.cons h r,e => by
    simp only [LV.solids,Bool.and_eq_true] at e
    exact .cons (h.solid hm hr e.1) (r.solid hm hr e.2)
end
mutual
theorem LR.cut {s t : Sit} {k : Nat} (hA : ∀ b,s.A b → t.A b ∧ t.am.look b = s.am.look b) (hr : t.ρ = s.ρ) (hm : ∀ i,i < k → t.lm[i]? = s.lm[i]?) : ∀ {v : LV} {a : AV},LR s v a → LV.under k v = true → LR t v a
  | _,_,.undef a,_ => .undef a
  | _,_,.bool b,_ => .bool b
  | _,_,.int k n,_ => .int k n
  | _,_,.nilptr,_ => .nilptr
  | _,_,.nilFunc,_ => .nilFunc
  | _,_,.nilIface,_ => .nilIface
  | .map i,_,.map hl h,e => by
    have e : i < k := by simpa [LV.under] using e
    exact .map (by unfold leL at hl ⊢; rw [hm i e]; exact hl) (by unfold okL at h ⊢; rw [hm i e,hr]; exact h)
  | _,_,.nilmap,_ => .nilmap
  | _,_,.ents h,e => .ents (h.cut hA hr hm (by simpa [LV.under] using e))
  | _,_,.away h1 h2,e => by
    simp only [LV.under,Bool.and_eq_true] at e
    exact .away (h1.cut hA hr hm e.1) (h2.cut hA hr hm e.2)
  | .ptr i o L,_,.ptr hl h,e => by
    have e : i < k := by simpa [LV.under] using e
    exact .ptr (by unfold leL at hl ⊢; rw [hm i e]; exact hl) (by unfold okL at h ⊢; rw [hm i e,hr]; exact h)
  | .sl i _ _ _ _ _ _,_,.sl hl h hg,e => by
    have e : i < k := by simpa [LV.under] using e
    exact .sl (by unfold leL at hl ⊢; rw [hm i e]; exact hl) (by unfold okL at h ⊢; rw [hm i e,hr]; exact h) hg
  | _,_,.nil,_ => .nil
  | _,_,.lst hb ha ho hc hp hn hg hx,_ => .lst (hA _ hb).1 ((hA _ hb).2.trans ha) ho (hc.pure hA hp) hp hn hg hx
  | _,_,.elt hb ha ho hc hp,_ => .elt (hA _ hb).1 ((hA _ hb).2.trans ha) ho (hc.pure hA hp) hp
  | _,_,.func h1 h2,e => by
    simp only [LV.under,Bool.and_eq_true] at e
    exact .func (h1.cut hA hr hm e.1) (h2.cut hA hr hm e.2)
  | _,_,.agg h,e => .agg (h.cut hA hr hm (by simpa [LV.under] using e))
  | _,_,.tup h,e => .tup (h.cut hA hr hm (by simpa [LV.under] using e))
theorem LRs.cut {s t : Sit} {k : Nat} (hA : ∀ b,s.A b → t.A b ∧ t.am.look b = s.am.look b) (hr : t.ρ = s.ρ) (hm : ∀ i,i < k → t.lm[i]? = s.lm[i]?) : ∀ {v : List LV} {a : List AV},LRs s v a → LV.unders k v = true → LRs t v a
  | _,_,.nil,_ => .nil
  | _,_,.cons h r,e => by
    simp only [LV.unders,Bool.and_eq_true] at e
    exact .cons (h.cut hA hr hm e.1) (r.cut hA hr hm e.2)
end
mutual
theorem LR.shift {s t : Sit} {k : Nat} (hA : ∀ b,s.A b → t.A b ∧ t.am.look b = s.am.look b) (hr : ∀ i,t.ρ (i + k) = s.ρ i) (hm : ∀ i,(t.lm[i + k]?).map (·.cells.length) = (s.lm[i]?).map (·.cells.length)) : ∀ {v : LV} {a : AV},LR s v a → LR t (v.shift k) a
  | _,_,.undef a => .undef a
  | _,_,.bool b => .bool b
  | _,_,.int k n => .int k n
  | _,_,.nilptr => .nilptr
  | _,_,.nilFunc => .nilFunc
  | _,_,.nilIface => .nilIface
  | .map i,_,.map hl h => by
    have hm := hm i
    refine .map ?_ fun c => ?_
    · obtain ⟨b,hb,hL⟩ := hl
      rw [hb] at hm
      simp only [Option.map_some,Option.map_eq_some_iff] at hm
      obtain ⟨b',hb',e⟩ := hm
      exact ⟨b',hb',by omega⟩
    · rw [hr]
      refine h ?_
      obtain ⟨b',hb',e⟩ := c
      rw [hb'] at hm
      simp only [Option.map_some] at hm
      obtain ⟨b,hb,e'⟩ := Option.map_eq_some_iff.1 hm.symm
      exact ⟨b,hb,by omega⟩
  | _,_,.nilmap => .nilmap
  | _,_,.ents h => .ents (h.shift hA hr hm)
  | _,_,.away h1 h2 => .away (h1.shift hA hr hm) (h2.shift hA hr hm)
  | .ptr i o L,_,.ptr hl h => by
    have hm := hm i
    refine .ptr ?_ fun c => ?_
    · obtain ⟨b,hb,hL⟩ := hl
      rw [hb] at hm
      simp only [Option.map_some,Option.map_eq_some_iff] at hm
      obtain ⟨b',hb',e⟩ := hm
      exact ⟨b',hb',by omega⟩
    · rw [hr]
      refine h ?_
      obtain ⟨b',hb',e⟩ := c
      rw [hb'] at hm
      simp only [Option.map_some] at hm
      obtain ⟨b,hb,e'⟩ := Option.map_eq_some_iff.1 hm.symm
      exact ⟨b,hb,by omega⟩
  | .sl i _ _ _ _ _ _,_,.sl hl h hg => by
    have hm := hm i
    refine .sl ?_ (fun c => ?_) hg
    · obtain ⟨b,hb,hL⟩ := hl
      rw [hb] at hm
      simp only [Option.map_some,Option.map_eq_some_iff] at hm
      obtain ⟨b',hb',e⟩ := hm
      exact ⟨b',hb',by omega⟩
    · rw [hr]
      refine h ?_
      obtain ⟨b',hb',e⟩ := c
      rw [hb'] at hm
      simp only [Option.map_some] at hm
      obtain ⟨b,hb,e'⟩ := Option.map_eq_some_iff.1 hm.symm
      exact ⟨b,hb,by omega⟩
  | _,_,.nil => .nil
  | _,_,.lst hb ha ho hc hp hn hg hx => .lst (hA _ hb).1 ((hA _ hb).2.trans ha) ho (hc.pure hA hp) hp hn hg hx
  | _,_,.elt hb ha ho hc hp => .elt (hA _ hb).1 ((hA _ hb).2.trans ha) ho (hc.pure hA hp) hp
  | _,_,.func h1 h2 => .func (h1.shift hA hr hm) (h2.shift hA hr hm)
  | _,_,.agg h => .agg (h.shift hA hr hm)
  | _,_,.tup h => .tup (h.shift hA hr hm)
theorem LRs.shift {s t : Sit} {k : Nat} (hA : ∀ b,s.A b → t.A b ∧ t.am.look b = s.am.look b) (hr : ∀ i,t.ρ (i + k) = s.ρ i) (hm : ∀ i,(t.lm[i + k]?).map (·.cells.length) = (s.lm[i]?).map (·.cells.length)) : ∀ {v : List LV} {a : List AV},LRs s v a → LRs t (LV.shifts k v) a
  | _,_,.nil => .nil
  | _,_,.cons h r => .cons (h.shift hA hr hm) (r.shift hA hr hm)
end
mutual
theorem LR.ofAV (s : Sit) : ∀ (a : AV),LR s (ofAV a) a
  | .bool b => .bool b
  | .int k n => .int k n
  | .nilptr => .nilptr
  | .nilslice => .nil
  | .nilFunc => .nilFunc
  | .nilIface => .nilIface
  | .func f a b => .func (LRs.ofAVs s a) (LRs.ofAVs s b)
  | .agg cs => .agg (LRs.ofAVs s cs)
  | .tup _ => .undef _
  | .ptr _ _ => .undef _
  | .slice .. => .undef _
  | .map _ => .undef _
  | .nilmap => .nilmap
  | .ents _ => .undef _
  | .away .. => .undef _
theorem LRs.ofAVs (s : Sit) : ∀ (a : List AV),LRs s (ofAVs a) a
  | [] => .nil
  | a :: r => .cons (LR.ofAV s a) (LRs.ofAVs s r)
end
mutual
theorem ofAV_pure : ∀ (a : AV),(ofAV a).pure = true
  | .bool b => rfl
  | .int k n => rfl
  | .nilptr => rfl
  | .nilslice => rfl
  | .nilFunc => rfl
  | .nilIface => rfl
  | .func f a b => by simp only [ofAV,LV.pure,ofAVs_pure a,ofAVs_pure b,Bool.and_self]
  | .agg cs => by simp only [ofAV,LV.pure,ofAVs_pure cs]
  | .tup _ => rfl
  | .ptr _ _ => rfl
  | .slice .. => rfl
  | .map _ => rfl
  | .nilmap => rfl
  | .ents _ => rfl
  | .away .. => rfl
theorem ofAVs_pure : ∀ (a : List AV),LV.pures (ofAVs a) = true
  | [] => rfl
  | a :: r => by simp only [ofAVs,LV.pures,ofAV_pure a,ofAVs_pure r,Bool.and_self]
end
section
variable {s : Sit}
theorem LRs.length : ∀ {v : List LV} {a : List AV},LRs s v a → v.length = a.length
  | _,_,.nil => rfl
  | _,_,.cons _ r => by simp [r.length]
theorem LRs.get : ∀ {v : List LV} {a : List AV},LRs s v a → ∀ {j : Nat} {x : LV},v[j]? = some x → ∃ u,a[j]? = some u ∧ LR s x u
  | _,_,.nil,j,x,h => by simp at h
  | _,_,.cons h r,0,x,e => by simp at e; subst e; exact ⟨_,rfl,h⟩
  | _,_,.cons h r,j + 1,x,e => by simpa using r.get (j := j) (by simpa using e)
theorem LRs.take : ∀ {v : List LV} {a : List AV} (n : Nat),LRs s v a → LRs s (v.take n) (a.take n)
  | _,_,0,_ => by simpa using .nil
  | _,_,n + 1,.nil => .nil
  | _,_,n + 1,.cons h r => .cons h (r.take n)
theorem LRs.drop : ∀ {v : List LV} {a : List AV} (n : Nat),LRs s v a → LRs s (v.drop n) (a.drop n)
  | _,_,0,h => by simpa using h
  | _,_,n + 1,.nil => .nil
  | _,_,n + 1,.cons h r => by simpa using r.drop n
theorem LRs.append : ∀ {v w : List LV} {a b : List AV},LRs s v a → LRs s w b → LRs s (v ++ w) (a ++ b)
  | _,_,_,_,.nil,k => k
  | _,_,_,_,.cons h r,k => .cons h (r.append k)
theorem LRs.spl {x y : List LV} {u v : List AV} (h : LRs s x u) (o : Nat) (k : LRs s y v) : LRs s (spliceL x o y) (splice u o v) := by
  unfold spliceL splice
  rw [k.length]
  exact ((h.take o).append k).append (h.drop _)
theorem LR.scalar {v : LV} {a : AV} (h : LR s v a) (e : v.scalar = true) : a.scalar = true := by
  cases h <;> first | rfl | (simp [LV.scalar] at e)
theorem LRs.scalar : ∀ {v : List LV} {a : List AV},LRs s v a → v.all LV.scalar = true → a.all AV.scalar = true
  | _,_,.nil,_ => rfl
  | _,_,.cons h r,e => by
    simp only [List.all_cons,Bool.and_eq_true] at e ⊢
    exact ⟨h.scalar e.1,r.scalar e.2⟩
theorem LR.cells {v : LV} {a : AV} {vs : List LV} (h : LR s v a) (e : v.cells = some vs) : LRs s vs a.cells := by
  cases h with
  | agg h => simp only [LV.cells,Option.some.injEq] at e; subst e; exact h
  | undef | tup | ents | away => simp [LV.cells] at e
  | _ => simp only [LV.cells,Option.some.injEq] at e; subst e; exact .cons (by first | assumption | (constructor <;> assumption) | constructor) .nil
theorem LR.evC [Glo] (hg : GOk s) : ∀ (a : AV),LR s (evC a) a
  | .bool b => .bool b
  | .int k n => .int k n
  | .nilptr => .nilptr
  | .nilslice => .nil
  | .nilFunc => .nilFunc
  | .nilIface => .nilIface
  | .func f a b => .func (LRs.ofAVs s a) (LRs.ofAVs s b)
  | .agg cs => .agg (LRs.ofAVs s cs)
  | .tup _ => .undef _
  | .ptr g o => by
    simp only [Go.Am.evC]
    split
    · rename_i l hl
      obtain ⟨h1,h2⟩ := hg g l hl
      have e : (ofAVs l).length = l.length := (LRs.ofAVs s l).length
      have := LR.elt (s := s) (cs := ofAVs l) (o := o) (p := 0) h1 h2 (by rw [e]; simp) (by rw [List.drop_zero,e]; rw [List.take_length]; exact LRs.ofAVs s l) (ofAVs_pure l)
      simpa using this
    · exact .undef _
  | .map _ => .undef _
  | .nilmap => .nilmap
  | .ents _ => .undef _
  | .away .. => .undef _
  | .slice .. => .undef _
end
theorem pures_take : ∀ (n : Nat) {l : List LV},LV.pures l = true → LV.pures (l.take n) = true
  | 0,_,_ => rfl
  | n + 1,[],_ => rfl
  | n + 1,a :: r,h => by
    simp only [LV.pures,Bool.and_eq_true,List.take_succ_cons] at h ⊢
    exact ⟨h.1,pures_take n h.2⟩
theorem pures_drop : ∀ (n : Nat) {l : List LV},LV.pures l = true → LV.pures (l.drop n) = true
  | 0,_,h => h
  | n + 1,[],_ => rfl
  | n + 1,a :: r,h => by
    simp only [LV.pures,Bool.and_eq_true,List.drop_succ_cons] at h ⊢
    exact pures_drop n h.2
def Shown (s : Sit) (ids : List Nat) (b : Nat) : Prop := s.A b ∨ ∃ i ∈ ids,s.ρ i = b
theorem Shown.mono {s : Sit} {a b : List Nat} (h : ∀ i ∈ a,i ∈ b) {x : Nat} : Shown s a x → Shown s b x
  | .inl c => .inl c
  | .inr ⟨i,hi,e⟩ => .inr ⟨i,h i hi,e⟩
theorem take_of_length {α : Type} (l : List α) (p n : Nat) (h : p + n ≤ l.length) : ((l.drop p).take n).length = n := by
  rw [List.length_take,List.length_drop]; omega
def Sees (s t : Sit) (ids : List Nat) : Prop := t.am = s.am ∧ ∀ b,Shown s ids b → t.A b
theorem Sees.mono {s t : Sit} {a b : List Nat} (h : ∀ i ∈ a,i ∈ b) (k : Sees s t b) : Sees s t a := ⟨k.1,fun x hx => k.2 x (hx.mono h)⟩
theorem Sees.A {s t : Sit} {ids : List Nat} (h : Sees s t ids) : ∀ b,s.A b → t.A b ∧ t.am.look b = s.am.look b := fun b hb => ⟨h.2 b (.inl hb),by rw [h.1]⟩
def Seen (s : Sit) (ids : List Nat) : Prop := ∀ i ∈ ids,∀ b,s.lm[i]? = some b → ∃ ab,s.am.look (s.ρ i) = some ab ∧ LRs s b.cells ab.cells
theorem Seen.mono {s : Sit} {a b : List Nat} (h : ∀ i ∈ a,i ∈ b) (k : Seen s b) : Seen s a := fun i hi => k i (h i hi)
theorem Rel2.seen [Glo] {s : Sit} (h : Rel2 s) (ids : List Nat) : Seen s ids := fun i _ b hb => by
  obtain ⟨ab,h1,h2,_⟩ := h.blk i b hb
  exact ⟨ab,h1,h2⟩
mutual
theorem view_ok {s t : Sit} : ∀ (k : Nat) {v v' : LV} {a : AV} {ids : List Nat},view k s.lm v = some (v',ids) → LR s v a → Sees s t ids → Seen s ids → LR t v' a ∧ v'.pure = true ∧ ∀ i ∈ ids,i < s.lm.length
  | 0,v,v',a,ids,h,_,_,_ => by simp [view] at h
  | k + 1,v,v',a,ids,h,hr,ht,hs => by
    cases hr with
    | undef a => simp only [view,Option.some.injEq,Prod.mk.injEq] at h; obtain ⟨rfl,rfl⟩ := h; exact ⟨.undef _,rfl,by simp⟩
    | bool b => simp only [view,Option.some.injEq,Prod.mk.injEq] at h; obtain ⟨rfl,rfl⟩ := h; exact ⟨.bool _,rfl,by simp⟩
    | int _ b => simp only [view,Option.some.injEq,Prod.mk.injEq] at h; obtain ⟨rfl,rfl⟩ := h; exact ⟨.int _ _,rfl,by simp⟩
    | nilptr => simp only [view,Option.some.injEq,Prod.mk.injEq] at h; obtain ⟨rfl,rfl⟩ := h; exact ⟨.nilptr,rfl,by simp⟩
    | nilFunc => simp only [view,Option.some.injEq,Prod.mk.injEq] at h; obtain ⟨rfl,rfl⟩ := h; exact ⟨.nilFunc,rfl,by simp⟩
    | nilIface => simp only [view,Option.some.injEq,Prod.mk.injEq] at h; obtain ⟨rfl,rfl⟩ := h; exact ⟨.nilIface,rfl,by simp⟩
    | nil => simp only [view,Option.some.injEq,Prod.mk.injEq] at h; obtain ⟨rfl,rfl⟩ := h; exact ⟨.nil,rfl,by simp⟩
    | map _ _ => simp [view] at h
    | nilmap => simp only [view,Option.some.injEq,Prod.mk.injEq] at h; obtain ⟨rfl,rfl⟩ := h; exact ⟨.nilmap,rfl,by simp⟩
    | ents _ => simp [view] at h
    | away _ _ => simp [view] at h
    | lst hA hb ho hc hp hn hg hx =>
      simp only [view,Option.some.injEq,Prod.mk.injEq] at h; obtain ⟨rfl,rfl⟩ := h
      exact ⟨(LR.lst hA hb ho hc hp hn hg hx).pure ht.A rfl,rfl,by simp⟩
    | elt hA hb ho hc hp =>
      simp only [view,Option.some.injEq,Prod.mk.injEq] at h; obtain ⟨rfl,rfl⟩ := h
      exact ⟨(LR.elt hA hb ho hc hp).pure ht.A rfl,rfl,by simp⟩
    | func h1 h2 =>
      simp only [view] at h
      split at h
      · rename_i a' i1 e1
        split at h
        · rename_i b' i2 e2
          cases h
          have g1 := viewL_ok k e1 h1 (ht.mono (by simp +contextual)) (hs.mono (by simp +contextual))
          have g2 := viewL_ok k e2 h2 (ht.mono (by simp +contextual)) (hs.mono (by simp +contextual))
          exact ⟨.func g1.1 g2.1,by simp [LV.pure,g1.2.1,g2.2.1],by intro i hi; rcases List.mem_append.1 hi with c | c; exact g1.2.2 i c; exact g2.2.2 i c⟩
        · cases h
      · cases h
    | agg h1 =>
      simp only [view] at h
      split at h
      · rename_i a' i1 e1
        cases h
        have g1 := viewL_ok k e1 h1 ht hs
        exact ⟨.agg g1.1,by simp [LV.pure,g1.2.1],g1.2.2⟩
      · cases h
    | tup h1 =>
      simp only [view] at h
      split at h
      · rename_i a' i1 e1
        cases h
        have g1 := viewL_ok k e1 h1 ht hs
        exact ⟨.tup g1.1,by simp [LV.pure,g1.2.1],g1.2.2⟩
      · cases h
    | @ptr i o L b hl hk =>
      simp only [view] at h
      split at h
      · rename_i bl hbl
        cases hL : Nat.beq bl.cells.length L
        · rw [hL] at h; simp at h
        · rw [hL] at h
          simp only [cond_true] at h
          split at h
          · rename_i cs i1 e1
            cases h
            have hL : bl.cells.length = L := by simpa using hL
            obtain rfl := hk ⟨bl,hbl,hL⟩
            obtain ⟨ab,hab,hcells⟩ := hs i (by simp) bl hbl
            have g1 := viewL_ok k e1 hcells (ht.mono (by simp +contextual)) (hs.mono (by simp +contextual))
            have hlen := g1.1.length
            refine ⟨by simpa using LR.elt (p := 0) (o := o) (ht.2 _ (.inr ⟨i,by simp,rfl⟩)) (by rw [ht.1]; exact hab) (by omega) (by rw [List.drop_zero,hlen,List.take_length]; exact g1.1) g1.2.1,rfl,?_⟩
            intro j hj
            rcases List.mem_cons.1 hj with rfl | c
            · exact (List.getElem?_eq_some_iff.1 hbl).1
            · exact g1.2.2 j c
          · cases h
      · cases h
    | @sl i o n cap g sz L b hl hk hg =>
      simp only [view] at h
      split at h
      · rename_i bl hbl
        cases hc : (Nat.beq bl.cells.length L && Nat.ble (o + n * sz) L && Nat.ble n cap)
        · rw [hc] at h; simp at h
        · rw [hc] at h
          simp only [cond_true] at h
          simp only [Bool.and_eq_true] at hc
          obtain ⟨⟨hL,ho⟩,hn⟩ := hc
          split at h
          · rename_i cs i1 e1
            cases h
            have hL : bl.cells.length = L := by simpa using hL
            have ho : o + n * sz ≤ L := by simpa using ho
            have hn : n ≤ cap := by simpa using hn
            obtain rfl := hk ⟨bl,hbl,hL⟩
            obtain ⟨ab,hab,hcells⟩ := hs i (by simp) bl hbl
            have g1 := viewL_ok k e1 ((hcells.drop o).take (n * sz)) (ht.mono (by simp +contextual)) (hs.mono (by simp +contextual))
            have hlen := hcells.length
            refine ⟨.lst (ht.2 _ (.inr ⟨i,by simp,rfl⟩)) (by rw [ht.1]; exact hab) (by omega) g1.1 g1.2.1 hn hg (by simp),rfl,?_⟩
            intro j hj
            rcases List.mem_cons.1 hj with rfl | c
            · exact (List.getElem?_eq_some_iff.1 hbl).1
            · exact g1.2.2 j c
          · cases h
      · cases h
theorem viewL_ok {s t : Sit} : ∀ (k : Nat) {v v' : List LV} {a : List AV} {ids : List Nat},viewL k s.lm v = some (v',ids) → LRs s v a → Sees s t ids → Seen s ids → LRs t v' a ∧ LV.pures v' = true ∧ ∀ i ∈ ids,i < s.lm.length
  | 0,v,v',a,ids,h,_,_,_ => by simp [viewL] at h
  | k + 1,[],v',a,ids,h,hr,ht,hs => by
    simp only [viewL,Option.some.injEq,Prod.mk.injEq] at h
    obtain ⟨rfl,rfl⟩ := h
    cases hr
    exact ⟨.nil,rfl,by simp⟩
  | k + 1,x :: r,v',a,ids,h,hr,ht,hs => by
    simp only [viewL] at h
    cases hp : LV.pures (x :: r)
    · rw [hp] at h
      exact viewC_ok k (by simpa using h) hr ht hs
    · rw [hp] at h
      simp only [cond_true,Option.some.injEq,Prod.mk.injEq] at h
      obtain ⟨rfl,rfl⟩ := h
      exact ⟨hr.pure ht.A hp,hp,by simp⟩
theorem viewC_ok {s t : Sit} : ∀ (k : Nat) {v v' : List LV} {a : List AV} {ids : List Nat},viewC k s.lm v = some (v',ids) → LRs s v a → Sees s t ids → Seen s ids → LRs t v' a ∧ LV.pures v' = true ∧ ∀ i ∈ ids,i < s.lm.length
  | 0,v,v',a,ids,h,_,_,_ => by simp [viewC] at h
  | k + 1,[],v',a,ids,h,hr,ht,hs => by
    simp only [viewC,Option.some.injEq,Prod.mk.injEq] at h
    obtain ⟨rfl,rfl⟩ := h
    cases hr
    exact ⟨.nil,rfl,by simp⟩
  | k + 1,x :: r,v',a,ids,h,hr,ht,hs => by
    simp only [viewC] at h
    cases hr with
    | cons h1 h2 =>
      split at h
      · rename_i x' i1 e1
        split at h
        · rename_i r' i2 e2
          cases h
          have g1 := view_ok k e1 h1 (ht.mono (by simp +contextual)) (hs.mono (by simp +contextual))
          have g2 := viewC_ok k e2 h2 (ht.mono (by simp +contextual)) (hs.mono (by simp +contextual))
          exact ⟨.cons g1.1 g2.1,by simp [LV.pures,g1.2.1,g2.2.1],by intro i hi; rcases List.mem_append.1 hi with c | c; exact g1.2.2 i c; exact g2.2.2 i c⟩
        · cases h
      · cases h
end
mutual
theorem LR.noRef {t u : Sit} {i : Nat} (hl : ∀ k,k ≠ i → u.lm[k]? = t.lm[k]?) (hρ : ∀ k,k ≠ i → u.ρ k = t.ρ k) (hA : ∀ b,t.A b → u.A b ∧ u.am.look b = t.am.look b) : ∀ {v : LV} {a : AV},LR t v a → v.noRef i = true → LR u v a
  | _,_,.undef a,_ => .undef a
  | _,_,.bool b,_ => .bool b
  | _,_,.int k n,_ => .int k n
  | _,_,.nilptr,_ => .nilptr
  | _,_,.nilFunc,_ => .nilFunc
  | _,_,.nilIface,_ => .nilIface
  | .map j,_,.map hll h,e => by
    have e : j ≠ i := by rintro rfl; simp [LV.noRef] at e
    exact .map (by unfold leL at hll ⊢; rw [hl j e]; exact hll) (by unfold okL at h ⊢; rw [hl j e,hρ j e]; exact h)
  | _,_,.nilmap,_ => .nilmap
  | _,_,.ents h,e => .ents (h.noRef hl hρ hA (by simpa [LV.noRef] using e))
  | _,_,.away h1 h2,e => by
    simp only [LV.noRef,Bool.and_eq_true] at e
    exact .away (h1.noRef hl hρ hA e.1) (h2.noRef hl hρ hA e.2)
  | .ptr j o L,_,.ptr hll h,e => by
    have e : j ≠ i := by rintro rfl; simp [LV.noRef] at e
    exact .ptr (by unfold leL at hll ⊢; rw [hl j e]; exact hll) (by unfold okL at h ⊢; rw [hl j e,hρ j e]; exact h)
  | .sl j _ _ _ _ _ _,_,.sl hll h hg,e => by
    have e : j ≠ i := by rintro rfl; simp [LV.noRef] at e
    exact .sl (by unfold leL at hll ⊢; rw [hl j e]; exact hll) (by unfold okL at h ⊢; rw [hl j e,hρ j e]; exact h) hg
  | _,_,.nil,_ => .nil
  | _,_,.lst hb ha ho hc hp hn hg hx,_ => .lst (hA _ hb).1 ((hA _ hb).2.trans ha) ho (hc.pure hA hp) hp hn hg hx
  | _,_,.elt hb ha ho hc hp,_ => .elt (hA _ hb).1 ((hA _ hb).2.trans ha) ho (hc.pure hA hp) hp
  | _,_,.func h1 h2,e => by
    simp only [LV.noRef,Bool.and_eq_true] at e
    exact .func (h1.noRef hl hρ hA e.1) (h2.noRef hl hρ hA e.2)
  | _,_,.agg h,e => .agg (h.noRef hl hρ hA (by simpa [LV.noRef] using e))
  | _,_,.tup h,e => .tup (h.noRef hl hρ hA (by simpa [LV.noRef] using e))
theorem LRs.noRef {t u : Sit} {i : Nat} (hl : ∀ k,k ≠ i → u.lm[k]? = t.lm[k]?) (hρ : ∀ k,k ≠ i → u.ρ k = t.ρ k) (hA : ∀ b,t.A b → u.A b ∧ u.am.look b = t.am.look b) : ∀ {v : List LV} {a : List AV},LRs t v a → LV.noRefs i v = true → LRs u v a
  | _,_,.nil,_ => .nil
  | _,_,.cons h r,e => by
    simp only [LV.noRefs,Bool.and_eq_true] at e
    exact .cons (h.noRef hl hρ hA e.1) (r.noRef hl hρ hA e.2)
end
mutual
theorem sameF_eq : ∀ {a b : LV},LV.sameF a b = true → a = b
  | .bool a,b,h => by cases b <;> simp_all [LV.sameF]
  | .int _ _,b,h => by cases b <;> simp_all [LV.sameF]
  | .nilptr,b,h => by cases b <;> simp_all [LV.sameF]
  | .nilFunc,b,h => by cases b <;> simp_all [LV.sameF]
  | .ptr i o L,.ptr i' o' L',h => by
    simp only [LV.sameF,Bool.and_eq_true,Nat.beq_eq] at h
    rw [h.1,h.2.1,h.2.2]
  | .func f a b,.func f' a' b',h => by
    simp only [LV.sameF,Bool.and_eq_true,Nat.beq_eq] at h
    rw [h.1,sameFs_eq h.2.1,sameFs_eq h.2.2]
theorem sameFs_eq : ∀ {a b : List LV},LV.sameFs a b = true → a = b
  | [],b,h => by cases b <;> simp_all [LV.sameFs]
  | a :: r,b :: q,h => by
    simp only [LV.sameFs,Bool.and_eq_true] at h
    rw [sameF_eq h.1,sameFs_eq h.2]
end
mutual
theorem firm_det {lo : Nat} {s t : Sit} (hst : Stp2 lo s t) : ∀ {v : LV} {a b : AV},LR s v a → LR t v b → v.firm s.lm = true → v.firm t.lm = true → a = b
  | .bool _,_,_,.bool _,.bool _,_,_ => rfl
  | .int _ _,_,_,.int _ _,.int _ _,_,_ => rfl
  | .nilptr,_,_,.nilptr,.nilptr,_,_ => rfl
  | .nilFunc,_,_,.nilFunc,.nilFunc,_,_ => rfl
  | .nilIface,_,_,.nilIface,.nilIface,_,_ => rfl
  | .nilmap,_,_,.nilmap,.nilmap,_,_ => rfl
  | .ptr i o L,_,_,.ptr _ h,.ptr _ h',e,e' => by
    simp only [LV.firm] at e e'
    split at e
    · rename_i bs hbs
      split at e'
      · rename_i bt hbt
        have e : bs.cells.length = L := by simpa using e
        have e' : bt.cells.length = L := by simpa using e'
        obtain ⟨b',q1,_,q3⟩ := hst.blk i bs hbs
        rw [hbt] at q1; cases q1
        rw [h ⟨bs,hbs,e⟩,h' ⟨bt,hbt,e'⟩,q3 (by omega)]
      · cases e'
    · cases e
  | .func f x y,_,_,.func h1 h2,.func k1 k2,e,e' => by
    simp only [LV.firm,Bool.and_eq_true] at e e'
    rw [firms_det hst h1 k1 e.1 e'.1,firms_det hst h2 k2 e.2 e'.2]
theorem firms_det {lo : Nat} {s t : Sit} (hst : Stp2 lo s t) : ∀ {v : List LV} {a b : List AV},LRs s v a → LRs t v b → LV.firms s.lm v = true → LV.firms t.lm v = true → a = b
  | [],_,_,.nil,.nil,_,_ => rfl
  | _ :: _,_,_,.cons h r,.cons h' r',e,e' => by
    simp only [LV.firms,Bool.and_eq_true] at e e'
    rw [firm_det hst h h' e.1 e'.1,firms_det hst r r' e.2 e'.2]
end
end Go.Am
