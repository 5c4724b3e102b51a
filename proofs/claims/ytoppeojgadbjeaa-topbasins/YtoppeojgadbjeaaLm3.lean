/-
  THE LIST MACHINE, 3: changes of memory.
-/
import Derived.Test.YtoppeojgadbjeaaLm2
set_option linter.unusedVariables false
namespace Go.Am
variable [Glo]
section
variable {s : Sit} {lo : Nat}
structure Free (lo : Nat) (s : Sit) (am' : Mem) (id : Nat) (b : Blk) : Prop where
  none : s.am.look id = none
  low : lo ≤ id
  nxt : s.am.next ≤ am'.next
  lt : id < am'.next
  look : ∀ j,am'.look j = if j = id then some b else s.am.look j
theorem free_alloc (hs : Rel2 s) (hlo : lo ≤ s.am.next) (b : Blk) : Free lo s (s.am.alloc b) s.am.next b where
  none := by
    cases h : s.am.look s.am.next with
    | none => rfl
    | some ab => exact absurd (hs.next _ _ h) (Nat.lt_irrefl _)
  low := hlo
  nxt := Nat.le_succ _
  lt := Nat.lt_succ_self _
  look := fun j => Mem.look_alloc _ _ _
omit [Glo] in
theorem free_put {id : Nat} (h0 : s.am.look id = none) (hlo : lo ≤ id) (hn : id < s.am.next) (b : Blk) : Free lo s (s.am.put id b) id b where
  none := h0
  low := hlo
  nxt := Nat.le_refl _
  lt := hn
  look := fun j => Mem.look_put _ _ _ _
def SlotOk (lo : Nat) (s : Sit) (slot : Option Nat) : Prop := lo ≤ s.am.next ∧ ∀ r,slot = some r → s.am.look r = none ∧ lo ≤ r ∧ r < s.am.next
theorem free_in (hs : Rel2 s) {slot : Option Nat} (h : SlotOk lo s slot) (b : Blk) : Free lo s (allocIn s.am slot b).2 (allocIn s.am slot b).1 b := by
  cases slot with
  | none => exact free_alloc hs h.1 b
  | some r => obtain ⟨a,b',c⟩ := h.2 r rfl; exact free_put a b' c b
theorem Free.notA {am' : Mem} {id : Nat} {b : Blk} (hf : Free lo s am' id b) (hs : Rel2 s) : ¬ s.A id := fun h => by
  obtain ⟨ab,hab⟩ := hs.A id h
  rw [hf.none] at hab; cases hab
theorem Free.notPlace {am' : Mem} {id : Nat} {b : Blk} (hf : Free lo s am' id b) (hs : Rel2 s) {i : Nat} {bl : LBlk} (hi : s.lm[i]? = some bl) : s.ρ i ≠ id := fun h => by
  obtain ⟨ab,hab,_⟩ := hs.blk i bl hi
  rw [h,hf.none] at hab; cases hab
def sitNew (s : Sit) (am' : Mem) (id : Nat) (cs : List LV) : Sit := ⟨s.lm ++ [⟨cs,true⟩],am',fun i => if i = s.lm.length then id else s.ρ i,s.A⟩
omit [Glo] in
theorem getElem?_snoc {α : Type} (l : List α) (a : α) (i : Nat) : (l ++ [a])[i]? = if i = l.length then some a else l[i]? := by
  by_cases h : i = l.length
  · subst h; simp
  · rw [if_neg h]
    by_cases h2 : i < l.length
    · rw [List.getElem?_append_left h2]
    · rw [List.getElem?_eq_none (by simp; omega),List.getElem?_eq_none (by omega)]
theorem new_keeps {am' : Mem} {id : Nat} {cs : List LV} {cs' : List AV} (hs : Rel2 s) (hf : Free lo s am' id ⟨cs',true⟩) : Keeps s (sitNew s am' id cs) where
  blk := fun i b hb => ⟨b,by
    show (s.lm ++ [_])[i]? = _
    rw [getElem?_snoc,if_neg (by have := (List.getElem?_eq_some_iff.1 hb).1; omega)]; exact hb,Evo.refl _,fun _ => by
    show (if i = s.lm.length then id else s.ρ i) = _
    rw [if_neg (by have := (List.getElem?_eq_some_iff.1 hb).1; omega)]⟩
  A := fun b hb => ⟨hb,by rw [show (sitNew s am' id cs).am = am' from rfl,hf.look,if_neg (show ¬ b = id from fun e => hf.notA hs (e ▸ hb))]⟩
theorem new_ok {am' : Mem} {id : Nat} {cs : List LV} {cs' : List AV} (hs : Rel2 s) (hf : Free lo s am' id ⟨cs',true⟩) (hc : LRs s cs cs') :
    Rel2 (sitNew s am' id cs) ∧ Stp2 lo s (sitNew s am' id cs) := by
  have hk := new_keeps (cs := cs) hs hf
  have hlm : ∀ i,(sitNew s am' id cs).lm[i]? = if i = s.lm.length then some ⟨cs,true⟩ else s.lm[i]? := fun i => getElem?_snoc _ _ _
  have hρ : ∀ i,(sitNew s am' id cs).ρ i = if i = s.lm.length then id else s.ρ i := fun i => rfl
  have hlt : ∀ {i : Nat} {b : LBlk},s.lm[i]? = some b → i < s.lm.length := fun h => (List.getElem?_eq_some_iff.1 h).1
  have hown : ∀ b,Owned (sitNew s am' id cs) b → Owned s b ∨ b = id := by
    rintro b ⟨i,bl,hi,ho,rfl⟩
    rw [hlm] at hi
    by_cases e : i = s.lm.length
    · rw [hρ,if_pos e]; exact .inr rfl
    · rw [if_neg e] at hi
      rw [hρ,if_neg e]
      exact .inl ⟨i,bl,hi,ho,rfl⟩
  refine ⟨⟨fun i b hb => ?_,fun i j b b' hb ho hb' e => ?_,fun b hb => ?_,fun b ab h => ?_,hs.glo.mono hk.A⟩,⟨hf.nxt,hk.blk,hk.A,fun b hb ho => ?_,fun b hb => .inl hb,fun b hb => ?_⟩⟩
  · rw [hlm] at hb
    by_cases e : i = s.lm.length
    · rw [if_pos e] at hb
      cases hb
      refine ⟨⟨cs',true⟩,?_,hc.mono hk,fun _ => ⟨rfl,?_⟩,fun h => by cases h⟩
      · rw [hρ,if_pos e]; show am'.look id = _; rw [hf.look,if_pos rfl]
      · rw [hρ,if_pos e]; exact hf.notA hs
    · rw [if_neg e] at hb
      obtain ⟨ab,h1,h2,h3,h4⟩ := hs.blk i b hb
      rw [hρ,if_neg e]
      exact ⟨ab,by show am'.look _ = _; rw [hf.look,if_neg (hf.notPlace hs hb)]; exact h1,h2.mono hk,h3,h4⟩
  · rw [hlm] at hb hb'
    rw [hρ,hρ] at e
    by_cases ei : i = s.lm.length
    · by_cases ej : j = s.lm.length
      · omega
      · rw [if_neg ej] at hb'
        rw [if_pos ei,if_neg ej] at e
        exact absurd e.symm (hf.notPlace hs hb')
    · rw [if_neg ei] at hb
      by_cases ej : j = s.lm.length
      · rw [if_neg ei,if_pos ej] at e
        exact absurd e (hf.notPlace hs hb)
      · rw [if_neg ej] at hb'
        rw [if_neg ei,if_neg ej] at e
        exact hs.inj i j b b' hb ho hb' e
  · obtain ⟨ab,hab⟩ := hs.A b hb
    exact ⟨ab,by rw [(hk.A b hb).2]; exact hab⟩
  · have h : am'.look b = some ab := h
    rw [hf.look] at h
    by_cases e : b = id
    · subst e; exact hf.lt
    · rw [if_neg e] at h
      exact Nat.lt_of_lt_of_le (hs.next b ab h) hf.nxt
  · show am'.look b = _
    rw [hf.look,if_neg (by have := hf.low; omega)]
  · rcases hown b hb with c | rfl
    · exact .inl c
    · exact .inr hf.low
def sitStay (s : Sit) (am' : Mem) (id : Nat) : Sit := ⟨s.lm,am',s.ρ,fun b => s.A b ∨ b = id⟩
theorem stay_ok {am' : Mem} {id : Nat} {b0 : Blk} (hs : Rel2 s) (hf : Free lo s am' id b0) : Rel2 (sitStay s am' id) ∧ Stp2 lo s (sitStay s am' id) := by
  have hk : Keeps s (sitStay s am' id) := ⟨fun i b hb => ⟨b,hb,Evo.refl _,fun _ => rfl⟩,fun b hb => ⟨.inl hb,by show am'.look b = _; rw [hf.look,if_neg (show ¬ b = id from fun e => hf.notA hs (e ▸ hb))]⟩⟩
  refine ⟨⟨fun i b hb => ?_,fun i j b b' hb ho hb' e => hs.inj i j b b' hb ho hb' e,fun b hb => ?_,fun b ab h => ?_,hs.glo.mono hk.A⟩,⟨hf.nxt,hk.blk,hk.A,fun b hb ho => ?_,fun b hb => ?_,fun b hb => .inl hb⟩⟩
  · obtain ⟨ab,h1,h2,h3,h4⟩ := hs.blk i b hb
    refine ⟨ab,by show am'.look (s.ρ i) = _; rw [hf.look,if_neg (hf.notPlace hs hb)]; exact h1,h2.mono hk,fun ho => ⟨(h3 ho).1,?_⟩,fun ho => .inl (h4 ho)⟩
    rintro (c | c)
    · exact (h3 ho).2 c
    · exact hf.notPlace hs hb c
  · rcases hb with c | rfl
    · obtain ⟨ab,hab⟩ := hs.A b c
      exact ⟨ab,by rw [(hk.A b c).2]; exact hab⟩
    · exact ⟨b0,by show am'.look _ = _; rw [hf.look,if_pos rfl]⟩
  · have h : am'.look b = some ab := h
    rw [hf.look] at h
    by_cases e : b = id
    · subst e; exact hf.lt
    · rw [if_neg e] at h
      exact Nat.lt_of_lt_of_le (hs.next b ab h) hf.nxt
  · show am'.look b = _
    rw [hf.look,if_neg (by have := hf.low; omega)]
  · rcases hb with c | rfl
    · exact .inl c
    · exact .inr (.inl hf.low)
omit [Glo] in
theorem getElem?_set' {α : Type} (l : List α) (i : Nat) (a : α) (j : Nat) (hi : i < l.length) : (l.set i a)[j]? = if j = i then some a else l[j]? := by
  rw [List.getElem?_set]
  by_cases h : i = j
  · subst h; simp [hi]
  · rw [if_neg h,if_neg (fun e => h e.symm)]
def sitPut (s : Sit) (i : Nat) (cs : List LV) (cs' : List AV) : Sit := ⟨s.lm.set i ⟨cs,true⟩,s.am.put (s.ρ i) ⟨cs',true⟩,s.ρ,s.A⟩
theorem put_ok {i : Nat} {b : LBlk} {cs : List LV} {cs' : List AV} (hs : Rel2 s) (hb : s.lm[i]? = some b) (ho : b.own = true) (hl : cs.length = b.cells.length) (hc : LRs s cs cs') :
    Rel2 (sitPut s i cs cs') ∧ Stp2 lo s (sitPut s i cs cs') := by
  have hi : i < s.lm.length := (List.getElem?_eq_some_iff.1 hb).1
  have hlm : ∀ j,(sitPut s i cs cs').lm[j]? = if j = i then some ⟨cs,true⟩ else s.lm[j]? := fun j => getElem?_set' _ _ _ _ hi
  have hlook : ∀ j,(sitPut s i cs cs').am.look j = if j = s.ρ i then some ⟨cs',true⟩ else s.am.look j := fun j => Mem.look_put _ _ _ _
  obtain ⟨ab0,h10,h20,h30,h40⟩ := hs.blk i b hb
  have hk : Keeps s (sitPut s i cs cs') := by
    refine ⟨fun j bj hj => ?_,fun x hx => ⟨hx,?_⟩⟩
    · by_cases e : j = i
      · subst e
        rw [hb] at hj; cases hj
        exact ⟨⟨cs,true⟩,by rw [hlm,if_pos rfl],by rw [hl]; exact Evo.refl _,fun _ => rfl⟩
      · exact ⟨bj,by rw [hlm,if_neg e]; exact hj,Evo.refl _,fun _ => rfl⟩
    · rw [hlook,if_neg (show ¬ x = s.ρ i from fun e => (h30 ho).2 (e ▸ hx))]
  refine ⟨⟨fun j bj hj => ?_,fun j k bj bk hj hoj hk' e => ?_,fun x hx => ?_,fun x ab h => ?_,hs.glo.mono hk.A⟩,⟨Nat.le_refl _,hk.blk,hk.A,fun x hx ho' => ?_,fun x hx => .inl hx,fun x hx => .inl ?_⟩⟩
  · rw [hlm] at hj
    by_cases e : j = i
    · rw [if_pos e] at hj
      cases hj
      subst e
      exact ⟨⟨cs',true⟩,by rw [hlook]; exact if_pos rfl,hc.mono hk,fun _ => ⟨rfl,(h30 ho).2⟩,fun h => by cases h⟩
    · rw [if_neg e] at hj
      obtain ⟨ab,h1,h2,h3,h4⟩ := hs.blk j bj hj
      have hne : s.ρ j ≠ s.ρ i := fun e' => e (hs.inj i j b bj hb ho hj e'.symm).symm
      exact ⟨ab,by rw [hlook]; exact (if_neg hne).trans h1,h2.mono hk,h3,h4⟩
  · rw [hlm] at hj hk'
    by_cases ej : j = i
    · by_cases ek : k = i
      · omega
      · rw [if_neg ek] at hk'
        subst ej
        exact hs.inj j k b bk hb ho hk' e
    · rw [if_neg ej] at hj
      by_cases ek : k = i
      · subst ek
        exact hs.inj j k bj b hj hoj hb e
      · rw [if_neg ek] at hk'
        exact hs.inj j k bj bk hj hoj hk' e
  · obtain ⟨ab,hab⟩ := hs.A x hx
    exact ⟨ab,by rw [(hk.A x hx).2]; exact hab⟩
  · rw [hlook] at h
    by_cases e : x = s.ρ i
    · subst e; exact hs.next _ _ h10
    · rw [if_neg e] at h; exact hs.next _ _ h
  · rw [hlook,if_neg (show ¬ x = s.ρ i from fun e => ho' ⟨i,b,hb,ho,e.symm⟩)]
  · obtain ⟨j,bj,hj,hoj,rfl⟩ := hx
    rw [hlm] at hj
    by_cases e : j = i
    · subst e; exact ⟨j,b,hb,ho,rfl⟩
    · rw [if_neg e] at hj; exact ⟨j,bj,hj,hoj,rfl⟩
def sitKill (s : Sit) (i : Nat) : Sit := ⟨s.lm.set i ⟨[],false⟩,s.am.put (s.ρ i) ⟨[],false⟩,s.ρ,fun b => s.A b ∨ b = s.ρ i⟩
theorem kill_ok {i : Nat} {b : LBlk} (hs : Rel2 s) (hb : s.lm[i]? = some b) (ho : b.own = true) : Rel2 (sitKill s i) ∧ Stp2 lo s (sitKill s i) ∧ Keeps s (sitKill s i) := by
  have hi : i < s.lm.length := (List.getElem?_eq_some_iff.1 hb).1
  have hlm : ∀ j,(sitKill s i).lm[j]? = if j = i then some ⟨[],false⟩ else s.lm[j]? := fun j => getElem?_set' _ _ _ _ hi
  have hlook : ∀ j,(sitKill s i).am.look j = if j = s.ρ i then some ⟨[],false⟩ else s.am.look j := fun j => Mem.look_put _ _ _ _
  obtain ⟨ab0,h10,h20,h30,h40⟩ := hs.blk i b hb
  have hk : Keeps s (sitKill s i) := by
    refine ⟨fun j bj hj => ?_,fun x hx => ⟨.inl hx,?_⟩⟩
    · by_cases e : j = i
      · subst e
        exact ⟨⟨[],false⟩,by rw [hlm,if_pos rfl],⟨fun _ => rfl,.inr rfl⟩,fun _ => rfl⟩
      · exact ⟨bj,by rw [hlm,if_neg e]; exact hj,Evo.refl _,fun _ => rfl⟩
    · rw [hlook,if_neg (show ¬ x = s.ρ i from fun e => (h30 ho).2 (e ▸ hx))]
  refine ⟨⟨fun j bj hj => ?_,fun j k bj bk hj hoj hk' e => ?_,fun x hx => ?_,fun x ab h => ?_,hs.glo.mono hk.A⟩,⟨Nat.le_refl _,hk.blk,hk.A,fun x hx ho' => ?_,fun x hx => ?_,fun x hx => .inl ?_⟩,hk⟩
  · rw [hlm] at hj
    by_cases e : j = i
    · rw [if_pos e] at hj
      cases hj
      subst e
      exact ⟨⟨[],false⟩,by rw [hlook]; exact if_pos rfl,.nil,(fun h => by cases h),fun _ => .inr rfl⟩
    · rw [if_neg e] at hj
      obtain ⟨ab,h1,h2,h3,h4⟩ := hs.blk j bj hj
      have hne : s.ρ j ≠ s.ρ i := fun e' => e (hs.inj i j b bj hb ho hj e'.symm).symm
      exact ⟨ab,by rw [hlook]; exact (if_neg hne).trans h1,h2.mono hk,fun h => ⟨(h3 h).1,fun c => c.elim (h3 h).2 hne⟩,fun h => .inl (h4 h)⟩
  · rw [hlm] at hj hk'
    by_cases ej : j = i
    · rw [if_pos ej] at hj
      cases hj; cases hoj
    · rw [if_neg ej] at hj
      by_cases ek : k = i
      · subst ek
        exact hs.inj j k bj b hj hoj hb e
      · rw [if_neg ek] at hk'
        exact hs.inj j k bj bk hj hoj hk' e
  · rcases hx with hx | rfl
    · obtain ⟨ab,hab⟩ := hs.A x hx
      exact ⟨ab,by rw [(hk.A x hx).2]; exact hab⟩
    · exact ⟨⟨[],false⟩,by rw [hlook]; exact if_pos rfl⟩
  · rw [hlook] at h
    by_cases e : x = s.ρ i
    · subst e; exact hs.next _ _ h10
    · rw [if_neg e] at h; exact hs.next _ _ h
  · rw [hlook,if_neg (show ¬ x = s.ρ i from fun e => ho' ⟨i,b,hb,ho,e.symm⟩)]
  · rcases hx with hx | rfl
    · exact .inl hx
    · exact .inr (.inr ⟨i,b,hb,ho,rfl⟩)
  · obtain ⟨j,bj,hj,hoj,rfl⟩ := hx
    rw [hlm] at hj
    by_cases e : j = i
    · rw [if_pos e] at hj; cases hj; cases hoj
    · rw [if_neg e] at hj; exact ⟨j,bj,hj,hoj,rfl⟩
def sitGrow (s : Sit) (i : Nat) (cs : List LV) (am' : Mem) (id : Nat) : Sit := ⟨s.lm.set i ⟨cs,true⟩,am',fun j => if j = i then id else s.ρ j,s.A⟩
theorem grow_ok {i : Nat} {b : LBlk} {cs : List LV} {cs' : List AV} (hs : Rel2 s) (hb : s.lm[i]? = some b) (ho : b.own = true) (hpos : 0 < b.cells.length) (hl : b.cells.length < cs.length) (hc : LRs s cs cs') (hlo : lo ≤ s.am.next) :
    Rel2 (sitGrow s i cs ((s.am.put (s.ρ i) ⟨[],false⟩).alloc ⟨cs',true⟩) s.am.next) ∧ Stp2 lo s (sitGrow s i cs ((s.am.put (s.ρ i) ⟨[],false⟩).alloc ⟨cs',true⟩) s.am.next) := by
  generalize ht : sitGrow s i cs ((s.am.put (s.ρ i) ⟨[],false⟩).alloc ⟨cs',true⟩) s.am.next = t
  have hi : i < s.lm.length := (List.getElem?_eq_some_iff.1 hb).1
  have hlm : ∀ j,t.lm[j]? = if j = i then some ⟨cs,true⟩ else s.lm[j]? := fun j => by rw [← ht]; exact getElem?_set' _ _ _ _ hi
  have hlook : ∀ j,t.am.look j = if j = s.am.next then some ⟨cs',true⟩ else if j = s.ρ i then some ⟨[],false⟩ else s.am.look j := fun j => by
    rw [← ht]
    show ((s.am.put (s.ρ i) ⟨[],false⟩).alloc ⟨cs',true⟩).look j = _
    rw [Mem.look_alloc,Mem.look_put]
    rfl
  have hρ : ∀ j,t.ρ j = if j = i then s.am.next else s.ρ j := fun j => by rw [← ht]; rfl
  have hA : t.A = s.A := by rw [← ht]; rfl
  have hnx : t.am.next = s.am.next + 1 := by rw [← ht]; rfl
  obtain ⟨ab0,h10,h20,h30,h40⟩ := hs.blk i b hb
  have hplt : ∀ {x : Nat} {ab : Blk},s.am.look x = some ab → x ≠ s.am.next := fun h => Nat.ne_of_lt (hs.next _ _ h)
  have hk : Keeps s t := by
    refine ⟨fun j bj hj => ?_,fun x hx => ⟨by rw [hA]; exact hx,?_⟩⟩
    · by_cases e : j = i
      · subst e
        rw [hb] at hj; cases hj
        exact ⟨⟨cs,true⟩,by rw [hlm,if_pos rfl],⟨fun h => by omega,.inl (Nat.le_of_lt hl)⟩,fun h => by simp at h; omega⟩
      · exact ⟨bj,by rw [hlm,if_neg e]; exact hj,Evo.refl _,fun _ => by rw [hρ,if_neg e]⟩
    · obtain ⟨ab,hab⟩ := hs.A x hx
      rw [hlook,if_neg (hplt hab),if_neg (show ¬ x = s.ρ i from fun e => (h30 ho).2 (e ▸ hx))]
  refine ⟨⟨fun j bj hj => ?_,fun j k bj bk hj hoj hk' e => ?_,fun x hx => ?_,fun x ab h => ?_,hs.glo.mono hk.A⟩,⟨by omega,hk.blk,hk.A,fun x hx ho' => ?_,fun x hx => .inl (by rw [hA] at hx; exact hx),fun x hx => ?_⟩⟩
  · rw [hlm] at hj
    by_cases e : j = i
    · rw [if_pos e] at hj
      cases hj
      subst e
      refine ⟨⟨cs',true⟩,by rw [hρ,if_pos rfl,hlook,if_pos rfl],hc.mono hk,fun _ => ⟨rfl,?_⟩,fun h => by cases h⟩
      rw [hρ,if_pos rfl,hA]
      intro c
      obtain ⟨ab,hab⟩ := hs.A _ c
      exact hplt hab rfl
    · rw [if_neg e] at hj
      obtain ⟨ab,h1,h2,h3,h4⟩ := hs.blk j bj hj
      have hne : s.ρ j ≠ s.ρ i := fun e' => e (hs.inj i j b bj hb ho hj e'.symm).symm
      rw [hρ,if_neg e,hA]
      exact ⟨ab,by rw [hlook,if_neg (hplt h1),if_neg hne]; exact h1,h2.mono hk,h3,h4⟩
  · rw [hlm] at hj hk'
    rw [hρ,hρ] at e
    by_cases ej : j = i
    · by_cases ek : k = i
      · omega
      · rw [if_neg ek] at hk'
        rw [if_pos ej,if_neg ek] at e
        obtain ⟨ab,h1,_⟩ := hs.blk k bk hk'
        exact absurd e.symm (hplt h1)
    · rw [if_neg ej] at hj
      by_cases ek : k = i
      · rw [if_neg ej,if_pos ek] at e
        obtain ⟨ab,h1,_⟩ := hs.blk j bj hj
        exact absurd e (hplt h1)
      · rw [if_neg ek] at hk'
        rw [if_neg ej,if_neg ek] at e
        exact hs.inj j k bj bk hj hoj hk' e
  · rw [hA] at hx
    obtain ⟨ab,hab⟩ := hs.A x hx
    exact ⟨ab,by rw [(hk.A x hx).2]; exact hab⟩
  · rw [hnx]
    rw [hlook] at h
    by_cases e1 : x = s.am.next
    · omega
    · rw [if_neg e1] at h
      by_cases e : x = s.ρ i
      · have := hs.next _ _ h10; omega
      · rw [if_neg e] at h; have := hs.next _ _ h; omega
  · rw [hlook,if_neg (by omega),if_neg (show ¬ x = s.ρ i from fun e => ho' ⟨i,b,hb,ho,e.symm⟩)]
  · obtain ⟨j,bj,hj,hoj,rfl⟩ := hx
    rw [hlm] at hj
    rw [hρ]
    by_cases e : j = i
    · rw [if_pos e]; exact .inr hlo
    · rw [if_neg e] at hj
      rw [if_neg e]
      exact .inl ⟨j,bj,hj,hoj,rfl⟩
omit [Glo] in
theorem freeze1_get (lm : LMem) (i j : Nat) : (freeze1 lm i)[j]? = if j = i then (lm[j]?).map (fun b => ⟨b.cells,false⟩) else lm[j]? := by
  unfold freeze1
  cases h : lm[i]? with
  | none =>
    by_cases e : j = i
    · subst e; simp [h]
    · simp [e]
  | some b =>
    have hi := (List.getElem?_eq_some_iff.1 h).1
    simp only [getElem?_set' _ _ _ _ hi]
    by_cases e : j = i
    · subst e; simp [h]
    · simp [e]
omit [Glo] in
theorem freeze_get : ∀ (ids : List Nat) (lm : LMem) (j : Nat),(freeze ids lm)[j]? = if j ∈ ids then (lm[j]?).map (fun b => ⟨b.cells,false⟩) else lm[j]?
  | [],lm,j => by simp [freeze]
  | i :: r,lm,j => by
    rw [freeze,freeze_get r,freeze1_get]
    by_cases e : j = i
    · subst e
      by_cases h : j ∈ r <;> simp [h] <;> (cases lm[j]? <;> simp)
    · by_cases h : j ∈ r <;> simp [e,h]
omit [Glo] in
theorem freeze1_length (lm : LMem) (i : Nat) : (freeze1 lm i).length = lm.length := by
  unfold freeze1; split <;> simp
omit [Glo] in
theorem freeze_length : ∀ (ids : List Nat) (lm : LMem),(freeze ids lm).length = lm.length
  | [],lm => rfl
  | i :: r,lm => by rw [freeze,freeze_length r,freeze1_length]
def sitFreeze (s : Sit) (ids : List Nat) : Sit := ⟨freeze ids s.lm,s.am,s.ρ,Shown s ids⟩
theorem freeze_ok (hs : Rel2 s) (ids : List Nat) (hids : ∀ i ∈ ids,i < s.lm.length) : Rel2 (sitFreeze s ids) ∧ Stp2 lo s (sitFreeze s ids) := by
  have hlm : ∀ j,(sitFreeze s ids).lm[j]? = if j ∈ ids then (s.lm[j]?).map (fun b => ⟨b.cells,false⟩) else s.lm[j]? := fun j => freeze_get ids s.lm j
  have hk : Keeps s (sitFreeze s ids) := by
    refine ⟨fun j bj hj => ?_,fun x hx => ⟨.inl hx,rfl⟩⟩
    by_cases e : j ∈ ids
    · exact ⟨⟨bj.cells,false⟩,by rw [hlm,if_pos e,hj]; rfl,Evo.refl _,fun _ => rfl⟩
    · exact ⟨bj,by rw [hlm,if_neg e]; exact hj,Evo.refl _,fun _ => rfl⟩
  have hback : ∀ {j : Nat} {b : LBlk},(sitFreeze s ids).lm[j]? = some b → ∃ b0,s.lm[j]? = some b0 ∧ b.cells = b0.cells ∧ (j ∈ ids ∧ b.own = false ∨ j ∉ ids ∧ b.own = b0.own) := by
    intro j b h
    rw [hlm] at h
    by_cases e : j ∈ ids
    · rw [if_pos e] at h
      obtain ⟨b0,h0,rfl⟩ := Option.map_eq_some_iff.1 h
      exact ⟨b0,h0,rfl,.inl ⟨e,rfl⟩⟩
    · rw [if_neg e] at h
      exact ⟨b,h,rfl,.inr ⟨e,rfl⟩⟩
  refine ⟨⟨fun j b hj => ?_,fun j k bj bk hj hoj hk' e => ?_,fun x hx => ?_,fun x ab h => hs.next x ab h,hs.glo.mono hk.A⟩,⟨Nat.le_refl _,hk.blk,hk.A,fun x hx ho' => rfl,fun x hx => ?_,fun x hx => .inl ?_⟩⟩
  · obtain ⟨b0,h0,hc,hcase⟩ := hback hj
    obtain ⟨ab,h1,h2,h3,h4⟩ := hs.blk j b0 h0
    refine ⟨ab,h1,by rw [hc]; exact h2.mono hk,fun ho => ?_,fun ho => ?_⟩
    · rcases hcase with ⟨_,hf⟩ | ⟨hn,he⟩
      · rw [hf] at ho; cases ho
      · rw [he] at ho
        refine ⟨(h3 ho).1,?_⟩
        rintro (c | ⟨i,hi,e⟩)
        · exact (h3 ho).2 c
        · have hil := hids i hi
          have := hs.inj j i b0 s.lm[i] h0 ho (List.getElem?_eq_getElem hil) e.symm
          exact hn (this ▸ hi)
    · rcases hcase with ⟨hi,_⟩ | ⟨hn,he⟩
      · exact .inr ⟨j,hi,rfl⟩
      · rw [he] at ho; exact .inl (h4 ho)
  · obtain ⟨b0,h0,hc,hcase⟩ := hback hj
    obtain ⟨b1,h1,hc1,hcase1⟩ := hback hk'
    rcases hcase with ⟨_,hf⟩ | ⟨hn,he⟩
    · rw [hf] at hoj; cases hoj
    · rw [he] at hoj
      exact hs.inj j k b0 b1 h0 hoj h1 e
  · rcases hx with c | ⟨i,hi,rfl⟩
    · exact hs.A x c
    · have hil := hids i hi
      obtain ⟨ab,h1,_⟩ := hs.blk i s.lm[i] (List.getElem?_eq_getElem hil)
      exact ⟨ab,h1⟩
  · rcases hx with c | ⟨i,hi,rfl⟩
    · exact .inl c
    · have hil := hids i hi
      obtain ⟨ab,h1,h2,h3,h4⟩ := hs.blk i s.lm[i] (List.getElem?_eq_getElem hil)
      cases ho : s.lm[i].own
      · exact .inl (h4 ho)
      · exact .inr (.inr ⟨i,s.lm[i],List.getElem?_eq_getElem hil,ho,rfl⟩)
  · obtain ⟨j,bj,hj,hoj,rfl⟩ := hx
    obtain ⟨b0,h0,hc,hcase⟩ := hback hj
    rcases hcase with ⟨_,hf⟩ | ⟨hn,he⟩
    · rw [hf] at hoj; cases hoj
    · rw [he] at hoj; exact ⟨j,b0,h0,hoj,rfl⟩
end
end Go.Am
