/-
  THE ABSTRACT MACHINE, 3: how its memory stands to the model's: places, values, blocks; what a step may change.
-/
import Derived.Test.YtoppeojgadbjeaaAm2
import Derived.MapKept
set_option linter.unusedVariables false
namespace Go.Am
structure Place where
  blk : Nat
  off : Nat
  fin : Nat
  map : Bool
  loop : Option (Nat × Loop)
variable [Glo]
abbrev PM := Nat → Option Place
mutual
inductive VR (ρ : PM) : AV → Value → Prop
  | bool (b : Bool) : VR ρ (.bool b) (.bool b)
  | int (k : IntKind) (n : Int) : VR ρ (.int k n) (.int k n)
  | ptr {i o : Nat} {p : Place} (h : ρ i = some p) (hk : p.map = false) : VR ρ (.ptr i o) (.pointer (some ⟨p.blk,p.off + o,none⟩))
  | nilptr : VR ρ .nilptr (.pointer none)
  | slice {i o l c : Nat} {p : Place} (h : ρ i = some p) (hk : p.map = false) : VR ρ (.slice i o l c 0) (.slice (some ⟨p.blk,p.off + o,none⟩) l c)
  | grow {i o l c g c' : Nat} {p : Place} (h : ρ i = some p) (hk : p.map = false) (hg : 0 < g) (hc : c ≤ c') (hf : p.off + o + c' * g ≤ p.fin) :
      VR ρ (.slice i o l c g) (.slice (some ⟨p.blk,p.off + o,none⟩) l c')
  | last {i o g : Nat} {a : Addr} : VR ρ (.slice i o 0 0 g) (.slice (some a) 0 0)
  | nilslice : VR ρ .nilslice (.slice none 0 0)
  | func {f : Nat} {xs ys : List AV} {vs us : Array Value} (h0 : f < 100000) (h1 : VRs ρ xs vs.toList) (h2 : VRs ρ ys us.toList) : VR ρ (.func f xs ys) (.func (.func f) vs us)
  | nilFunc : VR ρ .nilFunc .nilFunc
  | nilIface : VR ρ .nilIface .nilIface
  | map {i : Nat} {p : Place} (h : ρ i = some p) (hk : p.map = true) (hl : p.loop = none) : VR ρ (.map i) (.map (some p.blk))
  | yield {i j : Nat} {p : Place} {r : Loop} {R : Rnd} {full caps : List AV} (h : ρ i = some p) (hk : p.map = true) (hl : p.loop = some (j,r)) (h0 : 100000 ≤ j) (hj : Glo.rnd j R)
      (h1 : r.params.toList = R.ps) (h2 : r.assign = R.assign) (h3 : r.body = R.body) (h4 : R.k ≤ r.tmps.size) (hf : VRs ρ full r.tmps.toList) (hc : caps = R.us.map fun t => full.getD t .undef) :
      VR ρ (.func j [.ptr i 0] (caps ++ [.ptr i 0])) (.func (.yield p.blk) #[] #[])
  | nilmap : VR ρ .nilmap (.map none)
  | away {n b : Nat} {s x : AV} {a : Addr} {l c : Nat} : VR ρ (.away n b s x) (.slice (some a) l c)
  | agg {xs : List AV} {vs : Array Value} (h : VRs ρ xs vs.toList) : VR ρ (.agg xs) (.agg vs)
  | tup {xs : List AV} {vs : Array Value} (h : VRs ρ xs vs.toList) : VR ρ (.tup xs) (.tuple vs)
inductive VRs (ρ : PM) : List AV → List Value → Prop
  | nil : VRs ρ [] []
  | cons {a : AV} {v : Value} {r : List AV} {s : List Value} (h : VR ρ a v) (hr : VRs ρ r s) : VRs ρ (a :: r) (v :: s)
end
def PLe (ρ ρ' : PM) : Prop := ∀ i p,ρ i = some p → ρ' i = some p
omit [Glo] in
theorem PLe.refl (ρ : PM) : PLe ρ ρ := fun _ _ h => h
omit [Glo] in
theorem PLe.trans {a b c : PM} (h : PLe a b) (k : PLe b c) : PLe a c := fun i p e => k i p (h i p e)
mutual
theorem VR.mono {ρ ρ' : PM} (hle : PLe ρ ρ') : ∀ {a : AV} {v : Value},VR ρ a v → VR ρ' a v
  | _,_,.bool b => .bool b
  | _,_,.int k n => .int k n
  | _,_,.ptr h hk => .ptr (hle _ _ h) hk
  | _,_,.map h hk hl => .map (hle _ _ h) hk hl
  | _,_,.yield h hk hl h0 hj h1 h2 h3 h4 hf hc => .yield (hle _ _ h) hk hl h0 hj h1 h2 h3 h4 (hf.mono hle) hc
  | _,_,.nilmap => .nilmap
  | _,_,.away => .away
  | _,_,.nilptr => .nilptr
  | _,_,.slice h hk => .slice (hle _ _ h) hk
  | _,_,.grow h hk a b c => .grow (hle _ _ h) hk a b c
  | _,_,.last => .last
  | _,_,.nilslice => .nilslice
  | _,_,.func h0 h1 h2 => .func h0 (h1.mono hle) (h2.mono hle)
  | _,_,.nilFunc => .nilFunc
  | _,_,.nilIface => .nilIface
  | _,_,.agg h => .agg (h.mono hle)
  | _,_,.tup h => .tup (h.mono hle)
theorem VRs.mono {ρ ρ' : PM} (hle : PLe ρ ρ') : ∀ {a : List AV} {v : List Value},VRs ρ a v → VRs ρ' a v
  | _,_,.nil => .nil
  | _,_,.cons h r => .cons (h.mono hle) (r.mono hle)
end
theorem VRs.length {ρ : PM} : ∀ {a : List AV} {v : List Value},VRs ρ a v → a.length = v.length
  | _,_,.nil => rfl
  | _,_,.cons _ r => by simp [r.length]
theorem VRs.get {ρ : PM} : ∀ {a : List AV} {v : List Value},VRs ρ a v → ∀ {j : Nat} {x : AV},a[j]? = some x → ∃ u,v[j]? = some u ∧ VR ρ x u
  | _,_,.nil,j,x,h => by simp at h
  | _,_,.cons h r,0,x,e => by simp at e; subst e; exact ⟨_,rfl,h⟩
  | _,_,.cons h r,j + 1,x,e => by simpa using r.get (j := j) (by simpa using e)
theorem VRs.take {ρ : PM} : ∀ {a : List AV} {v : List Value} (n : Nat),VRs ρ a v → VRs ρ (a.take n) (v.take n)
  | _,_,0,_ => by simpa using .nil
  | _,_,n + 1,.nil => .nil
  | _,_,n + 1,.cons h r => .cons h (r.take n)
theorem VRs.drop {ρ : PM} : ∀ {a : List AV} {v : List Value} (n : Nat),VRs ρ a v → VRs ρ (a.drop n) (v.drop n)
  | _,_,0,h => h
  | _,_,n + 1,.nil => .nil
  | _,_,n + 1,.cons h r => r.drop n
theorem VRs.append {ρ : PM} : ∀ {a b : List AV} {v u : List Value},VRs ρ a v → VRs ρ b u → VRs ρ (a ++ b) (v ++ u)
  | _,_,_,_,.nil,k => k
  | _,_,_,_,.cons h r,k => .cons h (r.append k)
theorem VRs.of_get {ρ : PM} : ∀ {a : List AV} {v : List Value},a.length = v.length → (∀ (j : Nat) (x : AV) (u : Value),a[j]? = some x → v[j]? = some u → VR ρ x u) → VRs ρ a v
  | [],[],_,_ => .nil
  | [],_ :: _,h,_ => by simp at h
  | _ :: _,[],h,_ => by simp at h
  | x :: r,u :: s,h,k => .cons (k 0 x u rfl rfl) (VRs.of_get (by simpa using h) fun j y z hy hz => k (j + 1) y z (by simpa using hy) (by simpa using hz))
theorem VR.undef (ρ : PM) : VR ρ .undef Go.undef := .tup .nil
theorem VR.cells {ρ : PM} {a : AV} {v : Value} (h : VR ρ a v) : VRs ρ a.cells v.cells.toList := by
  cases h <;> first | (simp only [AV.cells,Value.cells]; assumption) | exact .cons (by constructor <;> assumption) .nil | exact .cons (by constructor) .nil
theorem VR.scalar {ρ : PM} {a : AV} {v : Value} (h : VR ρ a v) (hs : a.scalar = true) : v.oneCell' = true := by
  cases h <;> simp_all [AV.scalar,Value.oneCell']
theorem VRs.scalar {ρ : PM} : ∀ {a : List AV} {v : List Value},VRs ρ a v → a.all AV.scalar = true → ∀ u ∈ v,u.oneCell' = true
  | _,_,.nil,_,u,hu => by simp at hu
  | _,_,.cons h r,hs,u,hu => by
    simp only [List.all_cons,Bool.and_eq_true] at hs
    rcases List.mem_cons.1 hu with rfl | hu
    · exact h.scalar hs.1
    · exact r.scalar hs.2 u hu
structure CellsAt (ρ : PM) (w : World) (cs : List AV) (p : Place) : Prop where
  out : ∀ j c,cs[j]? = some c → ∃ v,w.cell? ⟨p.blk,p.off + j,none⟩ = some v ∧ VR ρ c v
inductive EntR (ρ : PM) : List AV → List MapEntry → Prop
  | nil : EntR ρ [] []
  | cons {k v : AV} {x : MapEntry} {r : List AV} {s : List MapEntry} (hk : VR ρ k x.key) (hv : VR ρ v x.val) (hr : EntR ρ r s) : EntR ρ (k :: v :: r) (x :: s)
theorem EntR.mono {ρ ρ' : PM} (hle : PLe ρ ρ') : ∀ {l : List AV} {s : List MapEntry},EntR ρ l s → EntR ρ' l s
  | _,_,.nil => .nil
  | _,_,.cons h k r => .cons (h.mono hle) (k.mono hle) (r.mono hle)
structure BlkRel (ρ : PM) (w : World) (b : Blk) (p : Place) : Prop where
  cells : p.map = false → CellsAt ρ w b.cells p
  own : p.map = false → b.own = true → ∃ cur ty,w.heap[p.blk]? = some (.cells cur ty (0,0)) ∧ p.off + b.cells.length ≤ p.fin ∧ p.fin ≤ cur.size
  loop : ∀ j r,p.map = true → p.loop = some (j,r) → (b.own = true ∨ b.cells ≠ []) → ∃ q st pd,b.cells = [.bool q] ∧ b.own = true ∧ w.heap[p.blk]? = some (.loop { r with state := st,pending := pd }) ∧ (q = true → st = .ready ∧ pd = none)
  map : p.map = true → p.loop = none → (b.own = true ∨ b.cells ≠ []) → ∃ es en clock,b.cells = [.ents es] ∧ b.own = true ∧ w.heap[p.blk]? = some (.map en clock) ∧ EntR ρ es en.toList
structure Rel (ρ : PM) (m : Mem) (w : World) : Prop where
  fresh : ∀ i,m.next ≤ i → ρ i = none
  blk : ∀ i b,m.look i = some b → ∃ p,ρ i = some p ∧ BlkRel ρ w b p
  apart : ∀ i j b b' p q,m.look i = some b → b.own = true → ρ i = some p → m.look j = some b' → (b'.own = true ∨ b'.cells ≠ []) → i ≠ j → ρ j = some q → p.blk ≠ q.blk
def OwnAt (ρ : PM) (m : Mem) (B : Nat) : Prop := ∃ i b p,m.look i = some b ∧ b.own = true ∧ ρ i = some p ∧ p.blk = B
def UseAt (ρ : PM) (m : Mem) (B : Nat) : Prop := ∃ i b p,m.look i = some b ∧ (b.own = true ∨ b.cells ≠ []) ∧ ρ i = some p ∧ p.blk = B
structure Stp (ρ : PM) (m : Mem) (w : World) (ρ' : PM) (m' : Mem) (w' : World) : Prop where
  old : ∀ i,i < m.next → ρ' i = ρ i
  rel : Rel ρ' m' w'
  next : m.next ≤ m'.next
  size : w.heap.size ≤ w'.heap.size
  os : w'.os = w.os
  tape : w'.tape = w.tape
  output : w'.output = w.output
  own : ∀ B,OwnAt ρ' m' B → OwnAt ρ m B ∨ w.heap.size ≤ B
  use : ∀ B,UseAt ρ' m' B → UseAt ρ m B ∨ w.heap.size ≤ B
  frame : ∀ B,B < w.heap.size → ¬ OwnAt ρ m B → w'.heap[B]? = w.heap[B]?
  gone : ∀ j,j < m.next → m.look j = none → m'.look j = none
theorem Stp.le {ρ ρ' : PM} {m m' : Mem} {w w' : World} (h : Stp ρ m w ρ' m' w') (hr : Rel ρ m w) : PLe ρ ρ' := by
  intro i p hp
  by_cases hi : i < m.next
  · rw [h.old i hi]; exact hp
  · rw [hr.fresh i (by omega)] at hp; cases hp
theorem Stp.refl {ρ : PM} {m : Mem} {w : World} (h : Rel ρ m w) : Stp ρ m w ρ m w :=
  ⟨fun _ _ => rfl,h,Nat.le_refl _,Nat.le_refl _,rfl,rfl,rfl,fun _ h => .inl h,fun _ h => .inl h,fun _ _ _ => rfl,fun _ _ h => h⟩
theorem Stp.trans {ρ ρ1 ρ2 : PM} {m m1 m2 : Mem} {w w1 w2 : World} (h : Stp ρ m w ρ1 m1 w1) (k : Stp ρ1 m1 w1 ρ2 m2 w2) : Stp ρ m w ρ2 m2 w2 where
  old i hi := (k.old i (Nat.lt_of_lt_of_le hi h.next)).trans (h.old i hi)
  rel := k.rel
  next := Nat.le_trans h.next k.next
  size := Nat.le_trans h.size k.size
  os := k.os.trans h.os
  tape := k.tape.trans h.tape
  output := k.output.trans h.output
  own B hB := by
    rcases k.own B hB with h1 | h1
    · exact h.own B h1
    · exact .inr (Nat.le_trans h.size h1)
  use B hB := by
    rcases k.use B hB with h1 | h1
    · exact h.use B h1
    · exact .inr (Nat.le_trans h.size h1)
  frame B hB hn := by
    rw [k.frame B (Nat.lt_of_lt_of_le hB h.size) (fun ho => (h.own B ho).elim hn fun h1 => by omega)]
    exact h.frame B hB hn
  gone j hj hn := k.gone j (Nat.lt_of_lt_of_le hj h.next) (h.gone j hj hn)
theorem Rel.lt {ρ : PM} {m : Mem} {w : World} (h : Rel ρ m w) {i : Nat} {b : Blk} (hb : m.look i = some b) : i < m.next := by
  obtain ⟨p,hp,_⟩ := h.blk i b hb
  exact Nat.lt_of_not_le fun hn => by rw [h.fresh i hn] at hp; cases hp
theorem CellsAt.kept {ρ ρ' : PM} {w w' : World} {cs : List AV} {p : Place} (h : CellsAt ρ w cs p) (hle : PLe ρ ρ') (hb : cs ≠ [] → w'.heap[p.blk]? = w.heap[p.blk]?) : CellsAt ρ' w' cs p := by
  refine ⟨fun j c hc => ?_⟩
  obtain ⟨v,hv,hr⟩ := h.out j c hc
  have hne : cs ≠ [] := by rintro rfl; simp at hc
  exact ⟨v,by rw [World.cell?_of_block (w := w) (a := ⟨p.blk,p.off + j,none⟩) (hb hne)]; exact hv,hr.mono hle⟩
theorem BlkRel.kept {ρ ρ' : PM} {w w' : World} {b : Blk} {p : Place} (h : BlkRel ρ w b p) (hle : PLe ρ ρ') (hb : (b.own = true ∨ b.cells ≠ []) → w'.heap[p.blk]? = w.heap[p.blk]?) : BlkRel ρ' w' b p :=
  ⟨fun hk => (h.cells hk).kept hle fun hc => hb (.inr hc),fun hk ho => by rw [hb (.inl ho)]; exact h.own hk ho,fun j r hk hl hu => by
    obtain ⟨q,st,pd,h1,h2,h3,h4⟩ := h.loop j r hk hl hu
    exact ⟨q,st,pd,h1,h2,by rw [hb hu]; exact h3,h4⟩,fun hk hl hu => by
    obtain ⟨es,en,clock,h1,h2,h3,h4⟩ := h.map hk hl hu
    exact ⟨es,en,clock,h1,h2,by rw [hb hu]; exact h3,h4.mono hle⟩⟩
theorem BlkRel.lt {ρ : PM} {w : World} {b : Blk} {p : Place} (h : BlkRel ρ w b p) (hu : b.own = true ∨ b.cells ≠ []) : p.blk < w.heap.size := by
  cases hk : p.map
  case true =>
    cases hl : p.loop with
    | none =>
      obtain ⟨es,en,clock,h1,h2,h3,h4⟩ := h.map hk hl hu
      exact (Array.getElem?_eq_some_iff.1 h3).1
    | some x =>
      obtain ⟨q,st,pd,h1,h2,h3,h4⟩ := h.loop x.1 x.2 hk hl hu
      exact (Array.getElem?_eq_some_iff.1 h3).1
  rcases hu with ho | hc
  · obtain ⟨cur,ty,hh,_⟩ := h.own hk ho
    exact (Array.getElem?_eq_some_iff.1 hh).1
  · obtain ⟨c,hc'⟩ : ∃ c,b.cells[0]? = some c := by
      cases hb : b.cells with
      | nil => exact absurd hb hc
      | cons c r => exact ⟨c,rfl⟩
    obtain ⟨v,hv,_⟩ := (h.cells hk).out 0 c hc'
    exact World.block_lt_of_cell? w _ hv
theorem UseAt.lt {ρ : PM} {m : Mem} {w : World} (h : Rel ρ m w) {B : Nat} (hu : UseAt ρ m B) : B < w.heap.size := by
  obtain ⟨i,b,p,hb,hc,hp,rfl⟩ := hu
  obtain ⟨q,hq,hr⟩ := h.blk i b hb
  rw [hp] at hq; cases hq
  exact hr.lt hc
omit [Glo] in
theorem OwnAt.use {ρ : PM} {m : Mem} {B : Nat} (h : OwnAt ρ m B) : UseAt ρ m B := by
  obtain ⟨i,b,p,hb,hc,hp,e⟩ := h
  exact ⟨i,b,p,hb,.inl hc,hp,e⟩
omit [Glo] in
theorem Mem.look_put (m : Mem) (i : Nat) (b : Blk) (j : Nat) : (m.put i b).look j = if j = i then some b else m.look j := Tr.get_set _ _ _ _
omit [Glo] in
theorem Mem.look_alloc (m : Mem) (b : Blk) (j : Nat) : (m.alloc b).look j = if j = m.next then some b else m.look j := Tr.get_set _ _ _ _
omit [Glo] in
theorem Mem.look_reserve (m : Mem) (n j : Nat) : (m.reserve n).look j = m.look j := rfl
omit [Glo] in
theorem Mem.next_put (m : Mem) (i : Nat) (b : Blk) : (m.put i b).next = m.next := rfl
omit [Glo] in
theorem Mem.next_alloc (m : Mem) (b : Blk) : (m.alloc b).next = m.next + 1 := rfl
omit [Glo] in
theorem Mem.next_reserve (m : Mem) (n : Nat) : (m.reserve n).next = m.next + n := rfl
def upd (ρ : PM) (i : Nat) (p : Place) : PM := fun j => if j = i then some p else ρ j
omit [Glo] in
theorem upd_le {ρ : PM} {i : Nat} (p : Place) (h : ρ i = none) : PLe ρ (upd ρ i p) := by
  intro j q hq
  unfold upd
  by_cases e : j = i
  · subst e; rw [h] at hq; cases hq
  · rw [if_neg e]; exact hq
omit [Glo] in
theorem upd_same (ρ : PM) (i : Nat) (p : Place) : upd ρ i p i = some p := by simp [upd]
omit [Glo] in
theorem upd_ne (ρ : PM) {i j : Nat} (p : Place) (h : j ≠ i) : upd ρ i p j = ρ j := by simp [upd,h]
theorem Rel.newB {ρ : PM} {m m' : Mem} {w : World} {cs : List AV} (h : Rel ρ m w) {id : Nat} (hid : ρ id = none) (hm : ∀ j,m'.look j = if j = id then some ⟨cs,true⟩ else m.look j)
    (hn : m.next ≤ m'.next) (hi : id < m'.next) {ob : Obj} {w' : World} (hw : w'.heap = w.heap.push ob) {pl : Place} (hpl : pl.blk = w.heap.size)
    (hB : BlkRel (upd ρ id pl) w' ⟨cs,true⟩ pl) :
    Rel (upd ρ id pl) m' w' := by
  have hnone : m.look id = none := by
    cases hl : m.look id with
    | none => rfl
    | some b => obtain ⟨p,hp,_⟩ := h.blk id b hl; rw [hid] at hp; cases hp
  have hold : ∀ B,B < w.heap.size → w'.heap[B]? = w.heap[B]? := fun B hB => by rw [hw,Array.getElem?_push,if_neg (by omega)]
  have hple := upd_le pl hid
  refine ⟨fun i hi' => ?_,fun i b hb => ?_,fun i j b b' p q hb ho hp hb' hu hne hq => ?_⟩
  · rw [upd_ne _ _ (by omega)]; exact h.fresh i (by omega)
  · rw [hm] at hb
    by_cases e : i = id
    · subst e
      rw [if_pos rfl] at hb
      cases hb
      exact ⟨_,upd_same _ _ _,hB⟩
    · rw [if_neg e] at hb
      obtain ⟨p,hp,hr⟩ := h.blk i b hb
      exact ⟨p,by rw [upd_ne _ _ e]; exact hp,hr.kept hple fun hu => hold _ (hr.lt hu)⟩
  · rw [hm] at hb hb'
    by_cases e : i = id
    · subst e
      rw [upd_same] at hp; cases hp
      rw [if_neg (Ne.symm hne)] at hb'
      rw [upd_ne _ _ (Ne.symm hne)] at hq
      have := UseAt.lt h (B := q.blk) ⟨j,b',q,hb',hu,hq,rfl⟩
      exact fun e => by rw [← e,hpl] at this; exact Nat.lt_irrefl _ this
    · rw [if_neg e] at hb
      rw [upd_ne _ _ e] at hp
      have hpl' := UseAt.lt h (B := p.blk) ⟨i,b,p,hb,.inl ho,hp,rfl⟩
      by_cases e' : j = id
      · subst e'
        rw [upd_same] at hq; cases hq
        exact fun e => by rw [e,hpl] at hpl'; exact Nat.lt_irrefl _ hpl'
      · rw [if_neg e'] at hb'
        rw [upd_ne _ _ e'] at hq
        exact h.apart i j b b' p q hb ho hp hb' hu hne hq
theorem Rel.new {ρ : PM} {m m' : Mem} {w : World} {cs : List AV} (h : Rel ρ m w) {id : Nat} (hid : ρ id = none) (hm : ∀ j,m'.look j = if j = id then some ⟨cs,true⟩ else m.look j)
    (hn : m.next ≤ m'.next) (hi : id < m'.next) {cur : Array Value} {ty : TypeId} {w' : World} (hw : w'.heap = w.heap.push (.cells cur ty))
    (hle : cs.length ≤ cur.size) (hv : VRs ρ cs (cur.toList.take cs.length)) :
    Rel (upd ρ id ⟨w.heap.size,0,cur.size,false,none⟩) m' w' := by
  have hnew : w'.heap[w.heap.size]? = some (.cells cur ty) := by rw [hw,Array.getElem?_push,if_pos rfl]
  have hple := upd_le ⟨w.heap.size,0,cur.size,false,none⟩ hid
  refine h.newB hid hm hn hi hw rfl ⟨fun _ => ⟨fun j c hc => ?_⟩,fun _ _ => ⟨cur,ty,hnew,by simpa using hle,Nat.le_refl _⟩,fun _ _ c => (by cases c),fun c => (by cases c)⟩
  obtain ⟨u,hu,hr⟩ := hv.get hc
  refine ⟨u,?_,hr.mono hple⟩
  have hj : j < cs.length := (List.getElem?_eq_some_iff.1 hc).1
  rw [List.getElem?_take,if_pos hj] at hu
  rw [cell_of_row w' w.heap.size _ cur ty (0,0) hnew]
  simpa using hu
theorem Stp.newB {ρ : PM} {m : Mem} {w : World} (h : Rel ρ m w) {cs : List AV} {ob : Obj} {w' : World} (hw : w'.heap = w.heap.push ob)
    (hos : w'.os = w.os) (hta : w'.tape = w.tape) (hou : w'.output = w.output) {pl : Place} (hpl : pl.blk = w.heap.size) (hrel : Rel (upd ρ m.next pl) (m.alloc ⟨cs,true⟩) w') :
    Stp ρ m w (upd ρ m.next pl) (m.alloc ⟨cs,true⟩) w' := by
  have hid : ρ m.next = none := h.fresh _ (Nat.le_refl _)
  refine ⟨fun i hi => upd_ne _ _ (Nat.ne_of_lt hi),hrel,Nat.le_succ _,by rw [hw]; simp,hos,hta,hou,?_,?_,fun B hB _ => by rw [hw,Array.getElem?_push,if_neg (by omega)],fun j hj hn => by rw [Mem.look_alloc,if_neg (Nat.ne_of_lt hj)]; exact hn⟩
  · rintro B ⟨i,b,p,hb,ho,hp,rfl⟩
    rw [Mem.look_alloc] at hb
    by_cases e : i = m.next
    · subst e; rw [upd_same] at hp; cases hp; exact .inr (Nat.le_of_eq hpl.symm)
    · rw [if_neg e] at hb; rw [upd_ne _ _ e] at hp; exact .inl ⟨i,b,p,hb,ho,hp,rfl⟩
  · rintro B ⟨i,b,p,hb,ho,hp,rfl⟩
    rw [Mem.look_alloc] at hb
    by_cases e : i = m.next
    · subst e; rw [upd_same] at hp; cases hp; exact .inr (Nat.le_of_eq hpl.symm)
    · rw [if_neg e] at hb; rw [upd_ne _ _ e] at hp; exact .inl ⟨i,b,p,hb,ho,hp,rfl⟩
theorem Stp.new {ρ : PM} {m : Mem} {w : World} (h : Rel ρ m w) {cs : List AV} {cur : Array Value} {ty : TypeId} {w' : World} (hw : w'.heap = w.heap.push (.cells cur ty))
    (hos : w'.os = w.os) (hta : w'.tape = w.tape) (hou : w'.output = w.output) (hle : cs.length ≤ cur.size) (hv : VRs ρ cs (cur.toList.take cs.length)) :
    Stp ρ m w (upd ρ m.next ⟨w.heap.size,0,cur.size,false,none⟩) (m.alloc ⟨cs,true⟩) w' :=
  Stp.newB h hw hos hta hou rfl (h.new (h.fresh _ (Nat.le_refl _)) (m' := m.alloc ⟨cs,true⟩) (fun j => Mem.look_alloc m _ j) (Nat.le_succ _) (Nat.lt_succ_self _) hw hle hv)
theorem Stp.newM {ρ : PM} {m : Mem} {w : World} (h : Rel ρ m w) :
    Stp ρ m w (upd ρ m.next ⟨w.heap.size,0,0,true,none⟩) (m.alloc ⟨[.ents []],true⟩) (w.alloc (.map #[] 0)) := by
  have hB : BlkRel (upd ρ m.next ⟨w.heap.size,0,0,true,none⟩) (w.alloc (.map #[] 0)) ⟨[.ents []],true⟩ ⟨w.heap.size,0,0,true,none⟩ := by
    refine ⟨fun c => ?_,fun c => ?_,fun _ _ _ c => (by cases c),fun _ _ _ => ⟨[],#[],0,rfl,rfl,?_,.nil⟩⟩
    · cases c
    · cases c
    · show (w.heap.push _)[w.heap.size]? = _
      rw [Array.getElem?_push,if_pos rfl]
  exact Stp.newB (w' := w.alloc (.map #[] 0)) h rfl rfl rfl rfl rfl (h.newB (w' := w.alloc (.map #[] 0)) (h.fresh _ (Nat.le_refl _)) (m' := m.alloc ⟨[.ents []],true⟩) (fun j => Mem.look_alloc m _ j) (Nat.le_succ _) (Nat.lt_succ_self _) rfl rfl hB)
theorem Stp.writeB {ρ : PM} {m : Mem} {w : World} (h : Rel ρ m w) {i : Nat} {b : Blk} {p : Place} (hb : m.look i = some b) (ho : b.own = true) (hp : ρ i = some p)
    {w' : World} (hsize : w'.heap.size = w.heap.size) (hoth : ∀ B,B ≠ p.blk → w'.heap[B]? = w.heap[B]?) (hos : w'.os = w.os) (hta : w'.tape = w.tape) (hou : w'.output = w.output) {cs : List AV}
    (hB : BlkRel ρ w' ⟨cs,true⟩ p) : Stp ρ m w ρ (m.put i ⟨cs,true⟩) w' := by
  have huse : ∀ j b',(m.put i ⟨cs,true⟩).look j = some b' → j ≠ i → m.look j = some b' := fun j b' hj hne => by rwa [Mem.look_put,if_neg hne] at hj
  refine ⟨fun _ _ => rfl,⟨fun j hj => h.fresh j hj,fun j b' hj => ?_,fun j k b' b'' pj pk hj hoj hpj hk huk hne hpk => ?_⟩,Nat.le_refl _,by omega,hos,hta,hou,?_,?_,?_,fun j hj hn => by rw [Mem.look_put,if_neg (by rintro rfl; rw [hb] at hn; cases hn)]; exact hn⟩
  · by_cases e : j = i
    · subst e
      rw [Mem.look_put,if_pos rfl] at hj; cases hj
      exact ⟨p,hp,hB⟩
    · have hj' := huse j b' hj e
      obtain ⟨q,hq,hr'⟩ := h.blk j b' hj'
      exact ⟨q,hq,hr'.kept (PLe.refl _) fun hu => hoth _ (Ne.symm (h.apart i j b b' p q hb ho hp hj' hu (Ne.symm e) hq))⟩
  · have hj' : ∃ b0,m.look j = some b0 ∧ b0.own = true := by
      by_cases e : j = i
      · subst e; exact ⟨b,hb,ho⟩
      · exact ⟨b',huse j b' hj e,hoj⟩
    have hk' : ∃ b0,m.look k = some b0 ∧ (b0.own = true ∨ b0.cells ≠ []) := by
      by_cases e : k = i
      · subst e; exact ⟨b,hb,.inl ho⟩
      · exact ⟨b'',huse k b'' hk e,huk⟩
    obtain ⟨b1,h1,h2⟩ := hj'
    obtain ⟨b2,h3,h4⟩ := hk'
    exact h.apart j k b1 b2 pj pk h1 h2 hpj h3 h4 hne hpk
  · rintro B ⟨j,b',q,hj,hoj,hq,rfl⟩
    by_cases e : j = i
    · subst e; rw [hp] at hq; cases hq; exact .inl ⟨j,b,p,hb,ho,hp,rfl⟩
    · exact .inl ⟨j,b',q,huse j b' hj e,hoj,hq,rfl⟩
  · rintro B ⟨j,b',q,hj,hoj,hq,rfl⟩
    by_cases e : j = i
    · subst e; rw [hp] at hq; cases hq; exact .inl ⟨j,b,p,hb,.inl ho,hp,rfl⟩
    · exact .inl ⟨j,b',q,huse j b' hj e,hoj,hq,rfl⟩
  · intro B hB hn
    exact hoth B (fun e => hn ⟨i,b,p,hb,ho,hp,e.symm⟩)
theorem Stp.write {ρ : PM} {m : Mem} {w : World} (h : Rel ρ m w) {i : Nat} {b : Blk} {p : Place} (hb : m.look i = some b) (ho : b.own = true) (hp : ρ i = some p) (hk : p.map = false)
    {cur cur' : Array Value} {ty : TypeId} (hh : w.heap[p.blk]? = some (.cells cur ty (0,0))) (hsz : cur'.size = cur.size) {cs : List AV} (hlen : cs.length = b.cells.length)
    (hv : ∀ j c,cs[j]? = some c → ∃ v,cur'[p.off + j]? = some v ∧ VR ρ c v) : Stp ρ m w ρ (m.put i ⟨cs,true⟩) (w.setRow p.blk cur') := by
  obtain ⟨q,hq,hr⟩ := h.blk i b hb
  rw [hp] at hq; cases hq
  obtain ⟨cur0,ty0,hh0,hfit,hfin⟩ := hr.own hk ho
  rw [hh] at hh0; cases hh0
  have hnew := setRow_heap w p.blk cur cur' ty (0,0) hh
  refine Stp.writeB h hb ho hp (by simp [World.setRow]) (fun B hB => setRow_other w p.blk B cur' hB) rfl rfl rfl ⟨fun _ => ⟨fun n c hc => ?_⟩,fun _ _ => ⟨cur',ty,hnew,by simp only; omega,by omega⟩,fun _ _ c => (by rw [hk] at c; cases c),fun c => by rw [hk] at c; cases c⟩
  obtain ⟨v,hv1,hv2⟩ := hv n c hc
  exact ⟨v,by rw [cell_of_row _ _ _ cur' ty (0,0) hnew]; exact hv1,hv2⟩
theorem Stp.writeM {ρ : PM} {m : Mem} {w : World} (h : Rel ρ m w) {i : Nat} {b : Blk} {p : Place} (hb : m.look i = some b) (ho : b.own = true) (hp : ρ i = some p) (hk : p.map = true) (hl : p.loop = none)
    {en en' : Array MapEntry} {c c' : Nat} (hh : w.heap[p.blk]? = some (.map en c)) {es : List AV} (hr : EntR ρ es en'.toList) :
    Stp ρ m w ρ (m.put i ⟨[.ents es],true⟩) { w with heap := w.heap.setIfInBounds p.blk (.map en' c') } := by
  have hlt : p.blk < w.heap.size := (Array.getElem?_eq_some_iff.1 hh).1
  have hnew : (w.heap.setIfInBounds p.blk (.map en' c'))[p.blk]? = some (.map en' c') := (MapKept.heap_set hh).1
  refine Stp.writeB (w' := { w with heap := w.heap.setIfInBounds p.blk (.map en' c') }) h hb ho hp (by simp) (fun B hB => (MapKept.heap_set hh).2 B hB) rfl rfl rfl ⟨fun c => ?_,fun c => ?_,fun _ _ _ c => (by rw [hl] at c; cases c),fun _ _ _ => ⟨es,en',c',rfl,rfl,hnew,hr⟩⟩
  · rw [hk] at c; cases c
  · rw [hk] at c; cases c
theorem Rel.sub {ρ : PM} {m X : Mem} {w : World} (h : Rel ρ X w) (hn : m.next = X.next) (hs : ∀ j b,m.look j = some b → X.look j = some b) : Rel ρ m w :=
  ⟨fun i hi => h.fresh i (by omega),fun i b hb => h.blk i b (hs i b hb),fun i j b b' p q hb ho hp hb' hu hne hq => h.apart i j b b' p q (hs i b hb) ho hp (hs j b' hb') hu hne hq⟩
theorem Stp.sub {ρ0 ρ : PM} {m0 m X : Mem} {w0 w : World} (h : Stp ρ0 m0 w0 ρ X w) (hn : m.next = X.next) (hs : ∀ j b,m.look j = some b → X.look j = some b) : Stp ρ0 m0 w0 ρ m w where
  old := h.old
  rel := h.rel.sub hn hs
  next := by rw [hn]; exact h.next
  size := h.size
  os := h.os
  tape := h.tape
  output := h.output
  own B := by rintro ⟨i,b,p,hb,ho,hp,e⟩; exact h.own B ⟨i,b,p,hs i b hb,ho,hp,e⟩
  use B := by rintro ⟨i,b,p,hb,ho,hp,e⟩; exact h.use B ⟨i,b,p,hs i b hb,ho,hp,e⟩
  frame := h.frame
  gone j hj h0 := by
    have := h.gone j hj h0
    cases hm : m.look j with
    | none => rfl
    | some b => rw [hs j b hm] at this; cases this
end Go.Am
