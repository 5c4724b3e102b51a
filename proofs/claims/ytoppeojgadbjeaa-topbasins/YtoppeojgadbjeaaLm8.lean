/-
  THE LIST MACHINE, 8: calls and code; what it answers is what the abstract machine answers.
-/
import Derived.Test.YtoppeojgadbjeaaLm7
set_option linter.unusedVariables false
namespace Go.Am
variable [Glo]
def ProgL (C' : LProg) (C : Prog) : Prop := ∀ f lf,C' f = some lf → ∃ af,C f = some af ∧ af.results = lf.results ∧ af.body = lf.body.erase ∧ lf.body.good = true
section
variable {s : Sit} {lo : Nat}
def sitOther (s : Sit) (am' : Mem) (A' : Nat → Prop) : Sit := ⟨s.lm,am',s.ρ,A'⟩
theorem other_ok (hs : Rel2 s) {am' : Mem} {A' : Nat → Prop} (hn : s.am.next ≤ am'.next) (hl : ∀ b,b < s.am.next → am'.look b = s.am.look b) (hA : ∀ b,s.A b → A' b) (hA' : ∀ b,A' b → s.A b ∨ s.am.next ≤ b)
    (hlook : ∀ b,A' b → ∃ ab,am'.look b = some ab) (hnext : ∀ b ab,am'.look b = some ab → b < am'.next) :
    Rel2 (sitOther s am' A') ∧ Stp2 s.am.next s (sitOther s am' A') ∧ Still s (sitOther s am' A') (fun _ => False) := by
  have hlt : ∀ {i : Nat} {b : LBlk},s.lm[i]? = some b → s.ρ i < s.am.next := fun h => by
    obtain ⟨ab,h1,_⟩ := hs.blk _ _ h
    exact hs.next _ _ h1
  have hk : Keeps s (sitOther s am' A') := ⟨fun i b hb => ⟨b,hb,Evo.refl _,fun _ => rfl⟩,fun b hb => ⟨hA b hb,hl b (by obtain ⟨ab,h⟩ := hs.A b hb; exact hs.next _ _ h)⟩⟩
  refine ⟨⟨fun i b hb => ?_,fun i j b b' hb ho hb' e => hs.inj i j b b' hb ho hb' e,hlook,hnext,hs.glo.mono hk.A⟩,⟨hn,hk.blk,hk.A,fun b hb _ => hl b hb,fun b hb => ?_,fun b hb => .inl hb⟩,fun i b hb _ => ⟨rfl,hl _ (hlt hb),b,hb,rfl⟩⟩
  · obtain ⟨ab,h1,h2,h3,h4⟩ := hs.blk i b hb
    refine ⟨ab,(hl _ (hlt hb)).trans h1,h2.mono hk,fun ho => ⟨(h3 ho).1,fun c => ?_⟩,fun ho => hA _ (h4 ho)⟩
    rcases hA' _ c with c | c
    · exact (h3 ho).2 c
    · have := hlt hb
      have c : s.am.next ≤ s.ρ i := c
      omega
  · rcases hA' b hb with c | c
    · exact .inl c
    · exact .inr (.inl c)
def sitJoin (s t : Sit) : Sit := ⟨s.lm ++ t.lm.map fun b => ⟨LV.shifts s.lm.length b.cells,b.own⟩,s.am,fun i => if i < s.lm.length then s.ρ i else t.ρ (i - s.lm.length),s.A⟩
omit [Glo] in
theorem join_get (s t : Sit) (i : Nat) : (sitJoin s t).lm[i]? = if i < s.lm.length then s.lm[i]? else (t.lm[i - s.lm.length]?).map fun b => ⟨LV.shifts s.lm.length b.cells,b.own⟩ := by
  show (s.lm ++ _)[i]? = _
  by_cases h : i < s.lm.length
  · rw [if_pos h,List.getElem?_append_left h]
  · rw [if_neg h,List.getElem?_append_right (by omega),List.getElem?_map]
omit [Glo] in
theorem shifts_length (k : Nat) : ∀ l : List LV,(LV.shifts k l).length = l.length
  | [] => rfl
  | a :: r => by simp [LV.shifts,shifts_length k r]
theorem join_ok {t : Sit} (hs : Rel2 s) (ht : Rel2 t) (ham : t.am = s.am) (hA : t.A = s.A) (h1 : ∀ i b j b',s.lm[i]? = some b → t.lm[j]? = some b' → b'.own = true → s.ρ i ≠ t.ρ j) (h2 : ∀ i b j b',s.lm[i]? = some b → b.own = true → t.lm[j]? = some b' → s.ρ i ≠ t.ρ j)
    (hlo : ∀ b,Owned t b → lo ≤ b) : Rel2 (sitJoin s t) ∧ Stp2 lo s (sitJoin s t) ∧ (∀ v a,LR t v a → LR (sitJoin s t) (v.shift s.lm.length) a) ∧ Still s (sitJoin s t) (fun _ => False) := by
  have hρ : ∀ i,(sitJoin s t).ρ i = if i < s.lm.length then s.ρ i else t.ρ (i - s.lm.length) := fun i => rfl
  have hlt : ∀ {i : Nat} {b : LBlk},s.lm[i]? = some b → i < s.lm.length := fun h => (List.getElem?_eq_some_iff.1 h).1
  have hk : Keeps s (sitJoin s t) := ⟨fun i b hb => ⟨b,by rw [join_get,if_pos (hlt hb)]; exact hb,Evo.refl _,fun _ => by rw [hρ,if_pos (hlt hb)]⟩,fun b hb => ⟨hb,rfl⟩⟩
  have hsA : ∀ b,t.A b → (sitJoin s t).A b ∧ (sitJoin s t).am.look b = t.am.look b := fun b hb => ⟨by rw [hA] at hb; exact hb,by rw [ham]; rfl⟩
  have hsr : ∀ i,(sitJoin s t).ρ (i + s.lm.length) = t.ρ i := fun i => by rw [hρ,if_neg (by omega)]; congr 1; omega
  have hsm : ∀ i,((sitJoin s t).lm[i + s.lm.length]?).map (·.cells.length) = (t.lm[i]?).map (·.cells.length) := fun i => by
    rw [join_get,if_neg (by omega),Nat.add_sub_cancel,Option.map_map]
    congr 1
    funext b
    exact shifts_length _ _
  have hback : ∀ {i : Nat} {b : LBlk},(sitJoin s t).lm[i]? = some b → (i < s.lm.length ∧ s.lm[i]? = some b) ∨ (¬ i < s.lm.length ∧ ∃ b0,t.lm[i - s.lm.length]? = some b0 ∧ b = ⟨LV.shifts s.lm.length b0.cells,b0.own⟩) := by
    intro i b h
    rw [join_get] at h
    by_cases c : i < s.lm.length
    · rw [if_pos c] at h; exact .inl ⟨c,h⟩
    · rw [if_neg c] at h
      obtain ⟨b0,h0,e⟩ := Option.map_eq_some_iff.1 h
      exact .inr ⟨c,b0,h0,e.symm⟩
  refine ⟨⟨fun i b hb => ?_,fun i j b b' hb ho hb' e => ?_,fun b hb => hs.A b hb,fun b ab h => hs.next b ab h,hs.glo.mono hk.A⟩,⟨Nat.le_refl _,hk.blk,hk.A,fun _ _ _ => rfl,fun b hb => .inl hb,fun b hb => ?_⟩,fun v a h => h.shift hsA hsr hsm,fun i b hb _ => ⟨by rw [hρ,if_pos (hlt hb)],rfl,b,by rw [join_get,if_pos (hlt hb)]; exact hb,rfl⟩⟩
  · rcases hback hb with ⟨c,h⟩ | ⟨c,b0,h,rfl⟩
    · obtain ⟨ab,k1,k2,k3,k4⟩ := hs.blk i b h
      rw [hρ,if_pos c]
      exact ⟨ab,k1,k2.mono hk,k3,k4⟩
    · obtain ⟨ab,k1,k2,k3,k4⟩ := ht.blk _ b0 h
      rw [hρ,if_neg c]
      refine ⟨ab,by rw [ham] at k1; exact k1,k2.shift hsA hsr hsm,fun ho => ?_,fun ho => ?_⟩
      · have := k3 ho
        rw [hA] at this; exact this
      · have := k4 ho
        rw [hA] at this; exact this
  · rw [hρ,hρ] at e
    rcases hback hb with ⟨c,h⟩ | ⟨c,b0,h,rfl⟩ <;> rcases hback hb' with ⟨c',h'⟩ | ⟨c',b0',h',rfl⟩
    · rw [if_pos c,if_pos c'] at e
      exact hs.inj i j b b' h ho h' e
    · rw [if_pos c,if_neg c'] at e
      exact absurd e (h2 _ _ _ _ h ho h')
    · rw [if_neg c,if_pos c'] at e
      exact absurd e.symm (h1 _ _ _ _ h' h ho)
    · rw [if_neg c,if_neg c'] at e
      have := ht.inj _ _ _ _ h ho h' e
      omega
  · obtain ⟨i,bl,hi,ho,rfl⟩ := hb
    rcases hback hi with ⟨c,h⟩ | ⟨c,b0,h,rfl⟩
    · rw [hρ,if_pos c]
      exact .inl ⟨i,bl,h,ho,rfl⟩
    · rw [hρ,if_neg c]
      exact .inr (hlo _ ⟨_,b0,h,ho,rfl⟩)
omit [Glo] in
theorem unders_mem {k : Nat} : ∀ {l : List LV},LV.unders k l = true → ∀ v ∈ l,LV.under k v = true
  | [],_,v,h => by simp at h
  | a :: r,hu,v,h => by
    simp only [LV.unders,Bool.and_eq_true] at hu
    rcases List.mem_cons.1 h with rfl | h
    · exact hu.1
    · exact unders_mem hu.2 v h
theorem trim_ok {t : Sit} (ht : Rel2 t) (hst : Stp2 lo s t) (vs : List LV) : ∃ t' : Sit,t'.lm = trim s.lm.length vs t.lm ∧ t'.am = t.am ∧ Rel2 t' ∧ Stp2 lo s t' ∧ ∀ v a,LR t v a → (v ∈ vs ∨ v = .undef) → LR t' v a := by
  unfold trim
  cases hc : (LV.unders s.lm.length vs && belowM s.lm.length (t.lm.take s.lm.length))
  · exact ⟨t,rfl,rfl,ht,hst,fun v a h _ => h⟩
  · simp only [Bool.and_eq_true] at hc
    generalize hk : s.lm.length = k at hc
    refine ⟨⟨t.lm.take k,t.am,t.ρ,t.A⟩,rfl,rfl,?_⟩
    generalize hu : (⟨t.lm.take k,t.am,t.ρ,t.A⟩ : Sit) = u
    have hA : ∀ b,t.A b → u.A b ∧ u.am.look b = t.am.look b := fun b h => by rw [← hu]; exact ⟨h,rfl⟩
    have hr : u.ρ = t.ρ := by rw [← hu]
    have hm : ∀ i,i < k → u.lm[i]? = t.lm[i]? := fun i hi => by rw [← hu]; exact List.getElem?_take_of_lt hi
    have hback : ∀ {i : Nat} {b : LBlk},u.lm[i]? = some b → i < k ∧ t.lm[i]? = some b := by
      intro i b h
      rw [← hu] at h
      have h : (t.lm.take k)[i]? = some b := h
      rw [List.getElem?_take] at h
      split at h
      · exact ⟨‹_›,h⟩
      · cases h
    have hcells : ∀ {i : Nat} {b : LBlk},u.lm[i]? = some b → LV.unders k b.cells = true := by
      intro i b h
      rw [← hu] at h
      have hmem : b ∈ t.lm.take k := List.mem_of_getElem? h
      have := hc.2
      unfold belowM at this
      rw [List.all_eq_true] at this
      exact this b hmem
    refine ⟨⟨fun i b hb => ?_,fun i j b b' hb ho hb' e => ?_,fun b hb => ?_,fun b ab h => ?_,ht.glo.mono hA⟩,⟨?_,fun i b hb => ?_,fun b hb => ?_,fun b hb ho => ?_,fun b hb => ?_,fun b hb => ?_⟩,fun v a h hv => ?_⟩
    · obtain ⟨h1,h2⟩ := hback hb
      obtain ⟨ab,k1,k2,k3,k4⟩ := ht.blk i b h2
      rw [hr]
      refine ⟨ab,by rw [← hu]; exact k1,k2.cut hA hr hm (hcells hb),fun ho => ?_,fun ho => (hA _ (k4 ho)).1⟩
      refine ⟨(k3 ho).1,?_⟩
      rw [← hu]; exact (k3 ho).2
    · rw [hr] at e
      exact ht.inj i j b b' (hback hb).2 ho (hback hb').2 e
    · rw [← hu] at hb ⊢; exact ht.A b hb
    · rw [← hu] at h ⊢; exact ht.next b ab h
    · rw [← hu]; exact hst.nxt
    · obtain ⟨b',h1,h2,h3⟩ := hst.blk i b hb
      have : i < k := by rw [← hk]; exact (List.getElem?_eq_some_iff.1 hb).1
      rw [hr]
      exact ⟨b',by rw [hm i this]; exact h1,h2,h3⟩
    · have := hst.A b hb
      rw [← hu]; exact this
    · rw [← hu]; exact hst.frame b hb ho
    · rw [← hu] at hb; exact hst.newA b hb
    · refine hst.newOwn b ?_
      obtain ⟨i,bl,hi,ho,rfl⟩ := hb
      exact ⟨i,bl,(hback hi).2,ho,by rw [hr]⟩
    · rcases hv with hv | rfl
      · exact h.cut hA hr hm (unders_mem hc.1 v hv)
      · exact .undef a
def RunOk (run : List LV → LMem → Option (LV × LMem)) (arun : List AV → Mem → Option (AV × Mem)) : Prop := ∀ (args : List LV) (lm : LMem) (v : LV) (lm' : LMem),run args lm = some (v,lm') → ∀ (s : Sit) (aargs : List AV),s.lm = lm → Rel2 s → LRs s args aargs →
  ∃ av am',arun aargs s.am = some (av,am') ∧ ∃ t : Sit,t.lm = lm' ∧ t.am = am' ∧ Rel2 t ∧ Stp2 s.am.next s t ∧ LR t v av
omit [Glo] in
theorem roM_get (m : LMem) (i : Nat) : (roM m)[i]? = (m[i]?).map fun b => ⟨b.cells,false⟩ := by unfold roM; rw [List.getElem?_map]
theorem mode_ok {run : List LV → LMem → Option (LV × LMem)} {arun : List AV → Mem → Option (AV × Mem)} (hrun : RunOk run arun) {md md' : Mode} {args : List LV} {v : LV} {lm' : LMem} (h : callMode run md args s.lm = some (md',v,lm')) {aargs : List AV} (hs : Rel2 s) (hargs : LRs s args aargs) :
    ∃ av am',arun aargs s.am = some (av,am') ∧ ∃ t : Sit,t.lm = lm' ∧ t.am = am' ∧ Rel2 t ∧ Stp2 s.am.next s t ∧ LR t v av ∧ (md' ≠ .W → Still s t fun _ => False) := by
  -- a start in which lists alone are seen
  have start : ∀ (vs : List LV) (ids : List Nat),views s.lm args = some (vs,ids) → ∀ v m1,run vs [] = some (v,m1) →
      (∀ i ∈ ids,i < s.lm.length) ∧ ∃ av am',arun aargs s.am = some (av,am') ∧ ∃ t1 : Sit,t1.lm = m1 ∧ t1.am = am' ∧ Rel2 t1 ∧ LR t1 v av ∧ s.am.next ≤ am'.next ∧ (∀ b,b < s.am.next → am'.look b = s.am.look b) ∧ (∀ b,Shown s ids b → t1.A b) ∧
        (∀ b,t1.A b → Shown s ids b ∨ s.am.next ≤ b) ∧ (∀ b,Owned t1 b → s.am.next ≤ b) := by
    intro vs ids hv v m1 hr
    have hview := viewL_ok (s := s) (t := ⟨[],s.am,s.ρ,Shown s ids⟩) 100 hv hargs ⟨rfl,fun b hb => hb⟩ (hs.seen _)
    have hrel : Rel2 ⟨[],s.am,s.ρ,Shown s ids⟩ := by
      refine ⟨fun i b hb => by simp at hb,fun i j b b' hb => by simp at hb,fun b hb => ?_,hs.next,hs.glo.mono fun b hb => ⟨.inl hb,rfl⟩⟩
      rcases hb with c | ⟨i,hi,rfl⟩
      · exact hs.A b c
      · obtain ⟨ab,h1,_⟩ := hs.blk i _ (List.getElem?_eq_getElem (hview.2.2 i hi))
        exact ⟨ab,h1⟩
    obtain ⟨av,am',h1,t1,h2,h3,h4,h5,h6⟩ := hrun vs [] v m1 hr ⟨[],s.am,s.ρ,Shown s ids⟩ aargs rfl hrel hview.1
    subst h3
    have hno : ∀ b,¬ Owned ⟨[],s.am,s.ρ,Shown s ids⟩ b := fun b ⟨i,bl,hi,_⟩ => by simp at hi
    refine ⟨hview.2.2,av,t1.am,h1,t1,h2,rfl,h4,h6,h5.nxt,fun b hb => h5.frame b hb (hno b),fun b hb => (h5.A b hb).1,fun b hb => ?_,fun b hb => ?_⟩
    · rcases h5.newA b hb with c | c | c
      · exact .inl c
      · exact .inr c
      · exact absurd c (hno b)
    · rcases h5.newOwn b hb with c | c
      · exact absurd c (hno b)
      · exact c
  have still_freeze : ∀ (ids : List Nat) {t : Sit},Still (sitFreeze s ids) t (fun _ => False) → Still s t (fun _ => False) := by
    intro ids t h i b hb _
    have : ∃ b1,(sitFreeze s ids).lm[i]? = some b1 ∧ b1.cells = b.cells := by
      show ∃ b1,(freeze ids s.lm)[i]? = some b1 ∧ _
      rw [freeze_get,hb]
      by_cases e : i ∈ ids
      · exact ⟨⟨b.cells,false⟩,by rw [if_pos e]; rfl,rfl⟩
      · exact ⟨b,by rw [if_neg e],rfl⟩
    obtain ⟨b1,h1,h2⟩ := this
    obtain ⟨k1,k2,b',k3,k4⟩ := h i b1 h1 (fun c => c)
    exact ⟨k1,k2,b',k3,k4.trans h2⟩
  -- a result that lies in memory of its own alone
  have only : ∀ (v1 : LV) (t1 : Sit),newOnly v1 t1.lm = true → Rel2 t1 → (∀ b,b < s.am.next → t1.am.look b = s.am.look b) → ∀ {ids : List Nat},(∀ b,Shown s ids b → t1.A b) →
      Rel2 ⟨t1.lm,t1.am,t1.ρ,s.A⟩ ∧ (∀ {i : Nat} {b : LBlk},t1.lm[i]? = some b → b.own = true ∧ LV.solids b.cells = true) ∧ ∀ a,LR t1 v1 a → LR ⟨t1.lm,t1.am,t1.ρ,s.A⟩ v1 a := by
    intro v1 t1 hsol h4 h7 ids h8
    simp only [newOnly,Bool.and_eq_true] at hsol
    have hall : ∀ {i : Nat} {b : LBlk},t1.lm[i]? = some b → b.own = true ∧ LV.solids b.cells = true := fun hb => by
      have := hsol.2
      rw [List.all_eq_true] at this
      simpa using this _ (List.mem_of_getElem? hb)
    refine ⟨⟨fun i b hb => ?_,h4.inj,fun b hb => ?_,h4.next,hs.glo.mono fun b hb => ⟨hb,h7 b (by obtain ⟨ab,k⟩ := hs.A b hb; exact hs.next _ _ k)⟩⟩,hall,fun a h => LR.solid (s := t1) (t := ⟨t1.lm,t1.am,t1.ρ,s.A⟩) rfl rfl h hsol.1⟩
    · obtain ⟨ab,k1,k2,k3,k4⟩ := h4.blk i b hb
      obtain ⟨o1,o2⟩ := hall hb
      refine ⟨ab,k1,LRs.solid (s := t1) (t := ⟨t1.lm,t1.am,t1.ρ,s.A⟩) rfl rfl k2 o2,fun _ => ⟨(k3 o1).1,fun c => (k3 o1).2 (h8 _ (.inl c))⟩,fun c => by rw [o1] at c; cases c⟩
    · obtain ⟨ab,k⟩ := hs.A b hb
      exact ⟨ab,by show t1.am.look b = _; rw [h7 b (hs.next _ _ k)]; exact k⟩
  cases md with
  | P =>
    simp only [callMode] at h
    split at h
    · rename_i vs ids hv
      split at h
      · rename_i v1 m1 hr
        split at h
        · rename_i v2 ids1 hv1
          simp only [Option.some.injEq,Prod.mk.injEq] at h
          obtain ⟨rfl,rfl,rfl⟩ := h
          obtain ⟨hids,av,am',h1,t1,rfl,rfl,h4,h5,h6,h7,h8,h9,h10⟩ := start vs ids hv v1 m1 hr
          refine ⟨av,t1.am,h1,?_⟩
          have hview := view_ok (s := t1) (t := ⟨[],t1.am,t1.ρ,Shown t1 ids1⟩) 100 hv1 h5 ⟨rfl,fun b hb => hb⟩ (h4.seen _)
          cases hp : v2.plain
          · -- lists are handed back
            cases hsol : newIds v1 t1.lm ids1
            · have hc : cond (ids.isEmpty || (false || false)) s.lm (freeze ids s.lm) = freeze ids s.lm := by cases ids <;> rfl
              rw [hc]
              obtain ⟨r1,r2⟩ := freeze_ok (lo := s.am.next) hs ids hids
              have hA2 : ∀ b,Shown t1 ids1 b → Shown s ids b ∨ s.am.next ≤ b := by
                rintro b (c | ⟨i,hi,rfl⟩)
                · exact h9 b c
                · have hil := List.getElem?_eq_getElem (hview.2.2 i hi)
                  obtain ⟨ab,k1,k2,k3,k4⟩ := h4.blk i _ hil
                  cases ho : (t1.lm[i]'(hview.2.2 i hi)).own
                  · exact h9 _ (k4 ho)
                  · exact .inr (h10 _ ⟨i,_,hil,ho,rfl⟩)
              obtain ⟨p1,p2,p3⟩ := other_ok (s := sitFreeze s ids) (am' := t1.am) (A' := Shown t1 ids1) r1 h6 h7 (fun b hb => .inl (h8 b hb)) hA2 (by
                rintro b (c | ⟨i,hi,rfl⟩)
                · exact h4.A b c
                · obtain ⟨ab,k1,_⟩ := h4.blk i _ (List.getElem?_eq_getElem (hview.2.2 i hi)); exact ⟨ab,k1⟩) h4.next
              refine ⟨sitOther (sitFreeze s ids) t1.am (Shown t1 ids1),rfl,rfl,p1,r2.trans p2,?_,fun _ => still_freeze ids p3⟩
              exact LR.pure (s := ⟨[],t1.am,t1.ρ,Shown t1 ids1⟩) (t := sitOther (sitFreeze s ids) t1.am (Shown t1 ids1)) (fun b hb => ⟨hb,rfl⟩) hview.1 hview.2.1
            · rw [Bool.or_true,Bool.or_true,cond_true]
              simp only [newIds,Bool.and_eq_true] at hsol
              have hall : ∀ {i : Nat} {b : LBlk},i ∈ ids1 → t1.lm[i]? = some b → b.own = true ∧ LV.solids b.cells = true := fun hi hb => by
                have := hsol.2
                rw [List.all_eq_true] at this
                have := this _ hi
                rw [hb] at this
                simpa using this
              have hseen : Seen ⟨t1.lm,t1.am,t1.ρ,s.A⟩ ids1 := fun i hi b hb => by
                obtain ⟨ab,k1,k2,_⟩ := h4.blk i b hb
                exact ⟨ab,k1,LRs.solid (s := t1) (t := ⟨t1.lm,t1.am,t1.ρ,s.A⟩) rfl rfl k2 (hall hi hb).2⟩
              have hview := view_ok (s := ⟨t1.lm,t1.am,t1.ρ,s.A⟩) (t := ⟨[],t1.am,t1.ρ,Shown ⟨t1.lm,t1.am,t1.ρ,s.A⟩ ids1⟩) 100 hv1 (LR.solid (s := t1) (t := ⟨t1.lm,t1.am,t1.ρ,s.A⟩) rfl rfl h5 hsol.1) ⟨rfl,fun b hb => hb⟩ hseen
              obtain ⟨p1,p2,p3⟩ := other_ok (am' := t1.am) (A' := Shown ⟨t1.lm,t1.am,t1.ρ,s.A⟩ ids1) hs h6 h7 (fun b hb => .inl hb) (by
                rintro b (c | ⟨i,hi,rfl⟩)
                · exact .inl c
                · have hil := List.getElem?_eq_getElem (hview.2.2 i hi)
                  exact .inr (h10 _ ⟨i,_,hil,(hall hi hil).1,rfl⟩)) (by
                rintro b (c | ⟨i,hi,rfl⟩)
                · obtain ⟨ab,k⟩ := hs.A b c
                  exact ⟨ab,by rw [h7 b (hs.next _ _ k)]; exact k⟩
                · obtain ⟨ab,k1,_⟩ := h4.blk i _ (List.getElem?_eq_getElem (hview.2.2 i hi)); exact ⟨ab,k1⟩) h4.next
              refine ⟨sitOther s t1.am (Shown ⟨t1.lm,t1.am,t1.ρ,s.A⟩ ids1),rfl,rfl,p1,p2,?_,fun _ => p3⟩
              exact LR.pure (s := ⟨[],t1.am,t1.ρ,Shown ⟨t1.lm,t1.am,t1.ρ,s.A⟩ ids1⟩) (t := sitOther s t1.am (Shown ⟨t1.lm,t1.am,t1.ρ,s.A⟩ ids1)) (fun b hb => ⟨hb,rfl⟩) hview.1 hview.2.1
          · rw [Bool.true_or,Bool.or_true,cond_true]
            obtain ⟨p1,p2,p3⟩ := other_ok (am' := t1.am) (A' := s.A) hs h6 h7 (fun b hb => hb) (fun b hb => .inl hb) (fun b hb => by
              obtain ⟨ab,k⟩ := hs.A b hb
              exact ⟨ab,by rw [h7 b (hs.next _ _ k)]; exact k⟩) h4.next
            exact ⟨sitOther s t1.am s.A,rfl,rfl,p1,p2,hview.1.plain hp,fun _ => p3⟩
        · cases h
      · cases h
    · cases h
  | O =>
    simp only [callMode] at h
    split at h
    · rename_i vs ids hv
      split at h
      · rename_i v1 m1 hr
        simp only [Option.some.injEq,Prod.mk.injEq] at h
        obtain ⟨rfl,rfl,rfl⟩ := h
        obtain ⟨hids,av,am',h1,t1,rfl,rfl,h4,h5,h6,h7,h8,h9,h10⟩ := start vs ids hv v1 m1 hr
        refine ⟨av,t1.am,h1,?_⟩
        cases hsol : newOnly v1 t1.lm
        · rw [cond_false]
          obtain ⟨r1,r2⟩ := freeze_ok (lo := s.am.next) hs ids hids
          obtain ⟨p1,p2,p3⟩ := other_ok (s := sitFreeze s ids) (am' := t1.am) (A' := t1.A) r1 h6 h7 h8 h9 h4.A h4.next
          have hplace : ∀ {i : Nat} {b : LBlk},(sitFreeze s ids).lm[i]? = some b → s.ρ i < s.am.next := fun hb => by
            obtain ⟨ab,k1,_⟩ := r1.blk _ _ hb
            exact hs.next _ _ k1
          obtain ⟨q1,q2,q3,q4⟩ := join_ok (s := sitOther (sitFreeze s ids) t1.am t1.A) (t := t1) (lo := s.am.next) p1 h4 rfl rfl (fun i b j b' hb hb' ho e => by
              have := hplace hb
              have k := h10 _ ⟨j,b',hb',ho,rfl⟩
              have e : s.ρ i = t1.ρ j := e
              omega) (fun i b j b' hb ho hb' e => by
              have e : s.ρ i = t1.ρ j := e
              cases ho' : b'.own
              · obtain ⟨ab,k1,k2,k3,k4⟩ := h4.blk j b' hb'
                obtain ⟨ab',l1,l2,l3,l4⟩ := p1.blk i b hb
                exact (l3 ho).2 (by show t1.A (s.ρ i); rw [e]; exact k4 ho')
              · have := hplace hb
                have k := h10 _ ⟨j,b',hb',ho',rfl⟩
                omega) h10
          have hlen : (sitOther (sitFreeze s ids) t1.am t1.A).lm.length = s.lm.length := freeze_length ids s.lm
          refine ⟨sitJoin (sitOther (sitFreeze s ids) t1.am t1.A) t1,?_,rfl,q1,(r2.trans p2).trans q2,?_,fun _ => still_freeze ids fun i b hb hf => ?_⟩
          · show (freeze ids s.lm) ++ t1.lm.map _ = _
            rw [hlen]
          · have := q3 v1 av h5
            rw [hlen] at this
            exact this
          · obtain ⟨k1,k2,b1,k3,k4⟩ := p3 i b hb hf
            obtain ⟨l1,l2,b2,l3,l4⟩ := q4 i b1 k3 hf
            exact ⟨l1.trans k1,k2,b2,l3,l4.trans k4⟩
        · rw [cond_true]
          obtain ⟨hT,hall,hsv⟩ := only v1 t1 hsol h4 h7 h8
          obtain ⟨p1,p2,p3⟩ := other_ok (am' := t1.am) (A' := s.A) hs h6 h7 (fun b hb => hb) (fun b hb => .inl hb) hT.A h4.next
          have hown : ∀ b,Owned ⟨t1.lm,t1.am,t1.ρ,s.A⟩ b → s.am.next ≤ b := fun b hb => h10 b hb
          have hplace : ∀ {i : Nat} {b : LBlk},s.lm[i]? = some b → s.ρ i < s.am.next := fun hb => by
            obtain ⟨ab,k1,_⟩ := hs.blk _ _ hb
            exact hs.next _ _ k1
          obtain ⟨q1,q2,q3,q4⟩ := join_ok (s := sitOther s t1.am s.A) (t := ⟨t1.lm,t1.am,t1.ρ,s.A⟩) (lo := s.am.next) p1 hT rfl rfl (fun i b j b' hb hb' ho e => by
              have := hplace hb
              have k := h10 _ ⟨j,b',hb',ho,rfl⟩
              have e : s.ρ i = t1.ρ j := e
              omega) (fun i b j b' hb ho hb' e => by
              have := hplace hb
              have k := h10 _ ⟨j,b',hb',(hall hb').1,rfl⟩
              have e : s.ρ i = t1.ρ j := e
              omega) hown
          refine ⟨sitJoin (sitOther s t1.am s.A) ⟨t1.lm,t1.am,t1.ρ,s.A⟩,rfl,rfl,q1,p2.trans q2,q3 v1 av (hsv av h5),fun _ i b hb hf => ?_⟩
          obtain ⟨k1,k2,b1,k3,k4⟩ := p3 i b hb hf
          obtain ⟨l1,l2,b2,l3,l4⟩ := q4 i b1 k3 hf
          exact ⟨l1.trans k1,k2,b2,l3,l4.trans k4⟩
      · cases h
    · cases h
  | R =>
    simp only [callMode] at h
    split at h
    · rename_i v1 m1 hr
      cases hp : v1.plain <;> rw [hp] at h <;> simp only [cond_true,cond_false,Option.some.injEq,Prod.mk.injEq,reduceCtorEq] at h
      obtain ⟨rfl,rfl,rfl⟩ := h
      have hk : Keeps s ⟨roM s.lm,s.am,s.ρ,fun b => s.A b ∨ ∃ i b0,s.lm[i]? = some b0 ∧ s.ρ i = b⟩ := ⟨fun i b hb => ⟨⟨b.cells,false⟩,by show (roM s.lm)[i]? = _; rw [roM_get,hb]; rfl,Evo.refl _,fun _ => rfl⟩,fun b hb => ⟨.inl hb,rfl⟩⟩
      have hback : ∀ {i : Nat} {b : LBlk},(roM s.lm)[i]? = some b → ∃ b0,s.lm[i]? = some b0 ∧ b = ⟨b0.cells,false⟩ := by
        intro i b h
        rw [roM_get] at h
        obtain ⟨b0,h0,e⟩ := Option.map_eq_some_iff.1 h
        exact ⟨b0,h0,e.symm⟩
      have hrel : Rel2 ⟨roM s.lm,s.am,s.ρ,fun b => s.A b ∨ ∃ i b0,s.lm[i]? = some b0 ∧ s.ρ i = b⟩ := by
        refine ⟨fun i b hb => ?_,fun i j b b' hb ho => ?_,fun b hb => ?_,hs.next,hs.glo.mono fun b hb => ⟨.inl hb,rfl⟩⟩
        · obtain ⟨b0,h0,rfl⟩ := hback hb
          obtain ⟨ab,k1,k2,k3,k4⟩ := hs.blk i b0 h0
          exact ⟨ab,k1,k2.mono hk,(fun ho => by cases ho),fun _ => .inr ⟨i,b0,h0,rfl⟩⟩
        · obtain ⟨b0,h0,rfl⟩ := hback hb; cases ho
        · rcases hb with c | ⟨i,b0,h0,rfl⟩
          · exact hs.A b c
          · obtain ⟨ab,k1,_⟩ := hs.blk i b0 h0; exact ⟨ab,k1⟩
      have hno : ∀ b,¬ Owned ⟨roM s.lm,s.am,s.ρ,fun b => s.A b ∨ ∃ i b0,s.lm[i]? = some b0 ∧ s.ρ i = b⟩ b := fun b ⟨i,bl,hi,ho,_⟩ => by
        obtain ⟨b0,h0,rfl⟩ := hback hi; cases ho
      obtain ⟨av,am',h1,t1,h2,h3,h4,h5,h6⟩ := hrun args _ v1 m1 hr ⟨roM s.lm,s.am,s.ρ,fun b => s.A b ∨ ∃ i b0,s.lm[i]? = some b0 ∧ s.ρ i = b⟩ aargs rfl hrel (hargs.mono hk)
      subst h3
      have hfr : ∀ b,b < s.am.next → t1.am.look b = s.am.look b := fun b hb => h5.frame b hb (hno b)
      obtain ⟨p1,p2,p3⟩ := other_ok (am' := t1.am) (A' := s.A) hs h5.nxt hfr (fun b hb => hb) (fun b hb => .inl hb) (fun b hb => by
        obtain ⟨ab,k⟩ := hs.A b hb
        exact ⟨ab,by rw [hfr b (hs.next _ _ k)]; exact k⟩) h4.next
      exact ⟨av,t1.am,h1,sitOther s t1.am s.A,rfl,rfl,p1,p2,h6.plain hp,fun _ => p3⟩
    · cases h
  | W =>
    simp only [callMode] at h
    split at h
    · rename_i v1 m1 hr
      simp only [Option.some.injEq,Prod.mk.injEq] at h
      obtain ⟨rfl,rfl,rfl⟩ := h
      obtain ⟨av,am',h1,t1,rfl,rfl,h4,h5,h6⟩ := hrun args _ v1 m1 hr s aargs rfl hs hargs
      obtain ⟨t',k1,k2,k3,k4,k5⟩ := trim_ok h4 h5 [v1]
      exact ⟨av,t1.am,h1,t',k1,k2,k3,k4,k5 v1 av h6 (.inl (by simp)),fun c => absurd rfl c⟩
    · cases h
theorem res_ok (hs : Rel2 s) {le : LEnv} {ae : Env} (hE : EnvL s le ae) {r : ARes} {v : LV} (h : resOfL le s.lm r = some v) : ∃ av,resOf ae s.am r = some av ∧ LR s v av := by
  cases r with
  | tmp t => simp only [resOfL,Option.some.injEq] at h; subst h; exact ⟨_,rfl,hE t⟩
  | cell t n g => exact load_ok hs (hE t) h
theorem resAll_ok (hs : Rel2 s) {le : LEnv} {ae : Env} (hE : EnvL s le ae) : ∀ {rs : List ARes} {vs : List LV},resAllL le s.lm rs = some vs → ∃ avs,resAll ae s.am rs = some avs ∧ LRs s vs avs
  | [],vs,h => by simp only [resAllL,Option.some.injEq] at h; subst h; exact ⟨[],rfl,.nil⟩
  | r :: rest,vs,h => by
    simp only [resAllL] at h
    split at h
    · rename_i v hv
      split at h
      · rename_i vs' hvs
        cases h
        obtain ⟨av,h1,h2⟩ := res_ok hs hE hv
        obtain ⟨avs,h3,h4⟩ := resAll_ok hs hE hvs
        exact ⟨av :: avs,by simp only [resAll,h1,h3],.cons h2 h4⟩
      · cases h
    · cases h
theorem results_ok (hs : Rel2 s) {le : LEnv} {ae : Env} (hE : EnvL s le ae) {af : AFunc} {v : LV} (h : resultsL af.results le s.lm = some v) : ∃ av,results af ae s.am = some av ∧ LR s v av := by
  unfold resultsL at h
  split at h
  · rename_i w hw
    cases h
    obtain ⟨avs,h1,h2⟩ := resAll_ok hs hE hw
    cases h2 with
    | cons h3 h4 =>
      cases h4
      exact ⟨_,by simp only [results,h1],h3⟩
  · rename_i ws hne hw
    cases h
    obtain ⟨avs,h1,h2⟩ := resAll_ok hs hE hw
    refine ⟨.tup avs,?_,.tup h2⟩
    simp only [results,h1]
    split
    · rename_i heq
      cases heq
      cases h2 with
      | cons h3 h4 => cases h4; exact absurd rfl (hne _)
    · rename_i heq; cases heq; rfl
    · rename_i heq; cases heq
  · cases h
omit [Glo] in
theorem ofFrom_at : ∀ (l : List AV) (n : Nat) (e : Env) (t : Nat),(Env.ofFrom n l e).at t = if n ≤ t then (match l[t - n]? with | some v => v | none => e.at t) else e.at t
  | [],n,e,t => by simp [Env.ofFrom]
  | v :: r,n,e,t => by
    rw [Env.ofFrom,ofFrom_at r]
    by_cases h1 : n + 1 ≤ t
    · rw [if_pos h1,if_pos (by omega),show t - n = (t - (n + 1)) + 1 by omega,List.getElem?_cons_succ]
      split
      · rfl
      · simp only [Env.at,Tr.get_set]; rw [if_neg (by omega)]
    · rw [if_neg h1]
      by_cases h2 : n ≤ t
      · have : t = n := by omega
        subst this
        simp [Env.at,Tr.get_set]
      · rw [if_neg h2]
        simp only [Env.at,Tr.get_set]; rw [if_neg (by omega)]
omit [Glo] in
theorem env_ok : ∀ {l : List LV} {a : List AV} (n : Nat) (e : Env),LRs s l a → EnvL s (LEnv.ofFrom n l) (Env.ofFrom n a e)
  | _,_,n,e,.nil => fun t => .undef _
  | v :: r,a :: q,n,e,.cons h hr => fun t => by
    rw [ofFrom_at]
    show LR s (cond (Nat.beq n t) v ((LEnv.ofFrom (n + 1) r).at t)) _
    by_cases h2 : n = t
    · subst h2
      simp only [Nat.beq_refl,cond_true,Nat.le_refl,if_true,Nat.sub_self,List.getElem?_cons_zero]
      exact h
    · rw [show Nat.beq n t = false by cases hb : Nat.beq n t; rfl; exact absurd (by simpa using hb) h2]
      have := env_ok (n + 1) (e.set n a) hr t
      rw [ofFrom_at] at this
      simp only [cond_false]
      by_cases h1 : n + 1 ≤ t
      · rw [if_pos (by omega),show t - n = (t - (n + 1)) + 1 by omega,List.getElem?_cons_succ]
        rw [if_pos h1] at this
        cases hq : q[t - (n + 1)]? with
        | some w => rw [hq] at this; exact this
        | none =>
          rw [hq] at this
          simp only [Env.at,Tr.get_set] at this
          rw [if_neg (by omega)] at this
          exact this
      · rw [if_neg (by omega)]
        rw [if_neg h1] at this
        simp only [Env.at,Tr.get_set] at this
        rw [if_neg (by omega)] at this
        exact this
omit [Glo] in
theorem envVals_mem (le : LEnv) (t : Nat) : le.at t ∈ envVals le ∨ le.at t = .undef := by
  induction le with
  | nil => exact .inr rfl
  | cons p r ih =>
    obtain ⟨k,v⟩ := p
    show cond (Nat.beq k t) v (LEnv.at r t) ∈ _ ∨ cond (Nat.beq k t) v (LEnv.at r t) = _
    cases Nat.beq k t
    · rcases ih with h | h
      · exact .inl (List.mem_cons_of_mem _ h)
      · exact .inr h
    · exact .inl (List.mem_cons_self ..)
end
variable {C' : LProg} {C : Prog}
def ExecOk (C' : LProg) (C : Prog) (n : Nat) : Prop := ∀ (c : LCode),c.good = true → ∀ (s : Sit) (le : LEnv) (ae : Env),Rel2 s → EnvL s le ae → ∀ x le' lm',execL C' n c le s.lm = some (x,le',lm') →
  ∃ ae' am',exec C n c.erase ae s.am = some (x,ae',am') ∧ ∃ t : Sit,t.lm = lm' ∧ t.am = am' ∧ Rel2 t ∧ Stp2 s.am.next s t ∧ EnvL t le' ae'
theorem callL_ok (hC : ProgL C' C) {n : Nat} (h : ExecOk C' C n) : CallOkL (callL C' n) (callA C n) := by
  intro g args lm md v lm' hcl s aargs hlm hs hargs
  subst hlm
  simp only [callL] at hcl
  split at hcl
  · rename_i lf hlf
    obtain ⟨af,haf,hres,hbody,hgood⟩ := hC g lf hlf
    have hrun : RunOk (fun vs m => retL lf.results (execL C' n lf.body (LEnv.ofFrom 0 vs) m)) (fun as m => callA C n g as m) := by
      intro vs lm v lm' hr t as hlm ht hvs
      subst hlm
      simp only [callA,haf,hbody]
      have henv : EnvL t (LEnv.ofFrom 0 vs) (Env.of as) := env_ok 0 .leaf hvs
      have hr : retL lf.results (execL C' n lf.body (LEnv.ofFrom 0 vs) t.lm) = some (v,lm') := hr
      unfold retL at hr
      split at hr
      · rename_i e m hx
        split at hr
        · rename_i w hw
          cases hr
          obtain ⟨ae',am',h1,u,rfl,rfl,h4,h5,h6⟩ := h lf.body hgood t _ _ ht henv _ _ _ hx
          rw [← hres] at hw
          obtain ⟨av,h7,h8⟩ := results_ok h4 h6 hw
          exact ⟨av,u.am,by simp only [h1,h7],u,rfl,rfl,h4,h5,h8⟩
        · cases hr
      · rename_i e m hx
        split at hr
        · rename_i w hw
          cases hr
          obtain ⟨ae',am',h1,u,rfl,rfl,h4,h5,h6⟩ := h lf.body hgood t _ _ ht henv _ _ _ hx
          rw [← hres] at hw
          obtain ⟨av,h7,h8⟩ := results_ok h4 h6 hw
          exact ⟨av,u.am,by simp only [h1,h7],u,rfl,rfl,h4,h5,h8⟩
        · cases hr
      · cases hr
    obtain ⟨av,am',h1,h2⟩ := mode_ok hrun hcl hs hargs
    exact ⟨av,am',h1,h2⟩
  · cases hcl
theorem exec_okL (hC : ProgL C' C) : ∀ n,ExecOk C' C n
  | 0 => fun c _ s le ae _ _ x le' lm' h => by simp [execL] at h
  | n + 1 => by
    intro c hg s le ae hs hE x le' lm' h
    have ih := exec_okL hC n
    have hcall := callL_ok hC ih
    cases c with
    | skip =>
      simp only [execL,Option.some.injEq,Prod.mk.injEq] at h
      obtain ⟨rfl,rfl,rfl⟩ := h
      exact ⟨ae,s.am,rfl,s,rfl,rfl,hs,Stp2.refl _ _,hE⟩
    | exit id ks =>
      simp only [execL,Option.some.injEq,Prod.mk.injEq] at h
      obtain ⟨rfl,rfl,rfl⟩ := h
      exact ⟨ae,s.am,rfl,s,rfl,rfl,hs,Stp2.refl _ _,hE.keep ks⟩
    | ret ks =>
      simp only [execL,Option.some.injEq,Prod.mk.injEq] at h
      obtain ⟨rfl,rfl,rfl⟩ := h
      exact ⟨ae,s.am,rfl,s,rfl,rfl,hs,Stp2.refl _ _,hE.keep ks⟩
    | fail => simp [execL] at h
    | region r ks ops =>
      have h' : (match runL (callL C' n) ops le s.lm ⟨s.lm.length,false,[],[],1,[some s.lm]⟩ with | some (e',m') => some (AExit.normal,LEnv.keep e' ks,m') | none => none) = some (x,le',lm') := h
      split at h'
      · rename_i e1 m1 hr
        simp only [Option.some.injEq,Prod.mk.injEq] at h'
        obtain ⟨rfl,rfl,rfl⟩ := h'
        simp only [LCode.good,Bool.and_eq_true] at hg
        have hk : Keeps s ⟨s.lm,s.am.reserve r,s.ρ,s.A⟩ := ⟨fun i b hb => ⟨b,hb,Evo.refl _,fun _ => rfl⟩,fun b hb => ⟨hb,rfl⟩⟩
        have h0 : Rel2 ⟨s.lm,s.am.reserve r,s.ρ,s.A⟩ := by
          refine ⟨fun i b hb => ?_,hs.inj,hs.A,fun b ab hb => Nat.lt_of_lt_of_le (hs.next b ab hb) (Nat.le_add_right _ _),hs.glo.mono hk.A⟩
          obtain ⟨ab,k1,k2,k3,k4⟩ := hs.blk i b hb
          exact ⟨ab,k1,k2.mono hk,k3,k4⟩
        have hst0 : Stp2 s.am.next s ⟨s.lm,s.am.reserve r,s.ρ,s.A⟩ := ⟨Nat.le_add_right _ _,hk.blk,hk.A,fun _ _ _ => rfl,fun b hb => .inl hb,fun b hb => .inl hb⟩
        have I : Inner s.am.next ⟨s.lm,s.am.reserve r,s.ρ,s.A⟩ ⟨s.lm,s.am.reserve r,s.ρ,s.A⟩ le ae [s.am.reserve r] ⟨s.lm.length,false,[],[],1,[some s.lm]⟩ ops := by
          refine ⟨h0,hE.mono hk,Stp2.refl _ _,Nat.le_add_right _ _,fun q hq => ⟨?_,?_⟩,hg.1,rfl,fun i b hb _ => ⟨rfl,⟨b,hb,rfl⟩,fun am ham => ?_⟩,fun b _ am ham => ?_,fun t _ => (hE t).mono hk,rfl,fun d lmd hd => ?_⟩
          · cases hl : s.am.look (s.am.next + q) with
            | none => exact hl
            | some ab => have := hs.next _ _ hl; omega
          · have := hg.2
            rw [List.all_eq_true] at this
            have := this q hq
            have : q < r := by simpa [Nat.blt_eq] using this
            show _ < s.am.next + r
            omega
          · rcases ham with rfl | ham
            · rfl
            · rw [List.mem_singleton] at ham; subst ham; rfl
          · rcases ham with rfl | ham
            · rfl
            · rw [List.mem_singleton] at ham; subst ham; rfl
          · cases d with
            | zero =>
              simp only [List.getElem?_cons_zero,Option.some.injEq] at hd
              subst hd
              exact ⟨⟨s.lm,s.am.reserve r,s.ρ,s.A⟩,rfl,rfl,h0,Stp2.refl _ _⟩
            | succ d => simp at hd
        obtain ⟨ae',am',h1,t,h2,h3,h4,h5,h6⟩ := run_ok hcall h0 ops I hr
        refine ⟨ae',am',?_,t,h2,h3,h4,hst0.trans h5,h6.keep ks⟩
        show (match runOps (callA C n) s.am.next ops ae (s.am.reserve r) [s.am.reserve r] with | some (e',m') => some (AExit.normal,e',m') | none => none) = _
        rw [h1]
      · cases h'
    | seq a b =>
      simp only [LCode.good,Bool.and_eq_true] at hg
      simp only [execL] at h
      split at h
      · rename_i e1 m1 hx
        obtain ⟨ae1,am1,h1,t,rfl,rfl,h4,h5,h6⟩ := ih a hg.1 s le ae hs hE _ _ _ hx
        obtain ⟨ae2,am2,k1,u,k2,k3,k4,k5,k6⟩ := ih b hg.2 t e1 ae1 h4 h6 _ _ _ h
        refine ⟨ae2,am2,?_,u,k2,k3,k4,h5.trans (k5.weak h5.nxt),k6⟩
        simp only [LCode.erase]
        rw [exec,h1]
        exact k1
      · rename_i hne
        obtain ⟨ae1,am1,h1,t,h2,h3,h4,h5,h6⟩ := ih a hg.1 s le ae hs hE _ _ _ h
        refine ⟨ae1,am1,?_,t,h2,h3,h4,h5,h6⟩
        simp only [LCode.erase]
        rw [exec,h1]
        cases x with
        | normal => exact absurd h (hne _ _)
        | _ => rfl
    | cond q a b =>
      simp only [LCode.good,Bool.and_eq_true] at hg
      simp only [execL] at h
      have hq := hE.opd hs.glo q
      unfold OpdR at hq
      split at h
      · rename_i hv
        rw [hv] at hq
        obtain ⟨ae1,am1,h1,t⟩ := ih a hg.1 s le ae hs hE _ _ _ h
        exact ⟨ae1,am1,by simp only [LCode.erase]; rw [exec,hq.bool_inv]; exact h1,t⟩
      · rename_i hv
        rw [hv] at hq
        obtain ⟨ae1,am1,h1,t⟩ := ih b hg.2 s le ae hs hE _ _ _ h
        exact ⟨ae1,am1,by simp only [LCode.erase]; rw [exec,hq.bool_inv]; exact h1,t⟩
      · cases h
    | block id b =>
      simp only [LCode.good] at hg
      simp only [execL] at h
      split at h
      · rename_i id' e1 m1 hx
        obtain ⟨ae1,am1,h1,t,rfl,rfl,h4,h5,h6⟩ := ih b hg s le ae hs hE _ _ _ hx
        cases hc : Nat.beq id' id <;> rw [hc] at h <;> simp only [cond_true,cond_false,Option.some.injEq,Prod.mk.injEq] at h <;> obtain ⟨rfl,rfl,rfl⟩ := h
        · exact ⟨ae1,t.am,by simp only [LCode.erase]; rw [exec,h1]; simp only [hc,cond_false],t,rfl,rfl,h4,h5,h6⟩
        · exact ⟨ae1,t.am,by simp only [LCode.erase]; rw [exec,h1]; simp only [hc,cond_true],t,rfl,rfl,h4,h5,h6⟩
      · rename_i hne
        obtain ⟨ae1,am1,h1,t,h2,h3,h4,h5,h6⟩ := ih b hg s le ae hs hE _ _ _ h
        refine ⟨ae1,am1,?_,t,h2,h3,h4,h5,h6⟩
        simp only [LCode.erase]
        rw [exec,h1]
        cases x with
        | exit id' => exact absurd h (hne _ _ _)
        | _ => rfl
    | loop tr ks b =>
      have hgb : b.good = true := by simpa [LCode.good] using hg
      simp only [execL] at h
      split at h
      · rename_i e1 m1 hx
        obtain ⟨ae1,am1,h1,t,rfl,rfl,h4,h5,h6⟩ := ih b hgb s _ ae hs (hE.keep ks) _ _ _ hx
        have htr : ∃ t' : Sit,t'.lm = cond tr (trim s.lm.length (envVals (e1.keep ks)) t.lm) t.lm ∧ t'.am = t.am ∧ Rel2 t' ∧ Stp2 s.am.next s t' ∧ ∀ v a,LR t v a → (v ∈ envVals (e1.keep ks) ∨ v = .undef) → LR t' v a := by
          cases tr
          · exact ⟨t,rfl,rfl,h4,h5,fun v a h _ => h⟩
          · exact trim_ok h4 h5 (envVals (e1.keep ks))
        obtain ⟨t',k1,k2,k3,k4,k5⟩ := htr
        have hE' : EnvL t' (e1.keep ks) ae1 := fun n => k5 _ _ ((h6.keep ks) n) (envVals_mem _ n)
        rw [← k1] at h
        obtain ⟨ae2,am2,l1,u,l2,l3,l4,l5,l6⟩ := ih (.loop tr ks b) hg t' _ ae1 k3 hE' _ _ _ h
        refine ⟨ae2,am2,?_,u,l2,l3,l4,k4.trans (l5.weak k4.nxt),l6⟩
        simp only [LCode.erase]
        rw [exec,h1]
        rw [k2] at l1
        exact l1
      · rename_i hne
        obtain ⟨ae1,am1,h1,t,h2,h3,h4,h5,h6⟩ := ih b hgb s _ ae hs (hE.keep ks) _ _ _ h
        refine ⟨ae1,am1,?_,t,h2,h3,h4,h5,h6⟩
        simp only [LCode.erase]
        rw [exec,h1]
        cases x with
        | normal => exact absurd h (hne _ _)
        | _ => rfl
theorem callL_sound (hC : ProgL C' C) (n : Nat) : CallOkL (callL C' n) (callA C n) := callL_ok hC (exec_okL hC n)
#print axioms callL_sound
end Go.Am
