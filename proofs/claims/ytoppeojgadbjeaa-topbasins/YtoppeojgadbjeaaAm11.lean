/-
  THE ABSTRACT MACHINE, 11: a region that draws its order: whatever the order, the model comes to what the abstract machine comes to in the canonical one. First the frame, and the abstract machine's run step by step.
-/
import Derived.Test.YtoppeojgadbjeaaAm10
set_option linter.unusedVariables false
set_option linter.unusedSimpArgs false
namespace Go.Am
variable [Glo]
variable {P : Program}
theorem frame_rule {ρ ρ' : PM} {X Pre M' X' : Mem} {w w' : World} (hX : Rel ρ X w) (hnext : Pre.next = X.next) (hsub : ∀ j b,Pre.look j = some b → X.look j = some b) (hS : Stp ρ Pre w ρ' M' w')
    (hX1 : ∀ j b,X'.look j = some b → M'.look j = some b ∨ (Pre.look j = none ∧ X.look j = some b ∧ b.own = true)) (hn' : X'.next = M'.next)
    (hgone : ∀ j,j < X.next → X.look j = none → X'.look j = none) : Stp ρ X w ρ' X' w' := by
  have hle : PLe ρ ρ' := hS.le (hX.sub hnext hsub)
  -- an extra block: its number is below,its place stands
  have extra : ∀ j b,Pre.look j = none → X.look j = some b → b.own = true → ∃ p,ρ j = some p ∧ ρ' j = some p ∧ BlkRel ρ' w' b p ∧ p.blk < w.heap.size ∧ ∀ B,OwnAt ρ Pre B ∨ UseAt ρ Pre B → p.blk ≠ B := by
    intro j b hpn hxj ho
    obtain ⟨p,hp,hr⟩ := hX.blk j b hxj
    have hlt : p.blk < w.heap.size := hr.lt (.inl ho)
    have happ : ∀ B,UseAt ρ Pre B → p.blk ≠ B := by
      rintro B ⟨i,b',q,hb',hu,hq,rfl⟩
      exact hX.apart j i b b' p q hxj ho hp (hsub i b' hb') hu (by rintro rfl; rw [hpn] at hb'; cases hb') hq
    refine ⟨p,hp,hle j p hp,hr.kept hle fun _ => hS.frame _ hlt fun hown => happ _ hown.use rfl,hlt,fun B hB => happ B (hB.elim OwnAt.use id)⟩
  have place : ∀ j p,ρ' j = some p → ∀ b,Pre.look j = none → X.look j = some b → b.own = true → ρ j = some p := fun j p hp b h1 h2 h3 => by
    obtain ⟨q,hq,hq',_⟩ := extra j b h1 h2 h3
    rw [hq'] at hp; cases hp; exact hq
  refine ⟨fun i hi => hS.old i (by omega),⟨fun i hi => hS.rel.fresh i (by omega),fun i b hb => ?_,fun i j b b' p q hb ho hp hb' hu hne hq => ?_⟩,by rw [hn',← hnext]; exact hS.next,hS.size,hS.os,hS.tape,hS.output,?_,?_,?_,hgone⟩
  · rcases hX1 i b hb with h1 | ⟨h1,h2,h3⟩
    · exact hS.rel.blk i b h1
    · obtain ⟨p,hp,hp',hr,_⟩ := extra i b h1 h2 h3
      exact ⟨p,hp',hr⟩
  · rcases hX1 i b hb with h1 | ⟨h1,h2,h3⟩
    · rcases hX1 j b' hb' with k1 | ⟨k1,k2,k3⟩
      · exact hS.rel.apart i j b b' p q h1 ho hp k1 hu hne hq
      · obtain ⟨q',hq',hq'',_,hlt,hB⟩ := extra j b' k1 k2 k3
        rw [hq''] at hq; cases hq
        rcases hS.own p.blk ⟨i,b,p,h1,ho,hp,rfl⟩ with h | h
        · exact (hB _ (.inl h)).symm
        · intro e; rw [e] at h; omega
    · obtain ⟨p',hp',hp'',_,hlt,hB⟩ := extra i b h1 h2 h3
      rw [hp''] at hp; cases hp
      rcases hX1 j b' hb' with k1 | ⟨k1,k2,k3⟩
      · rcases hS.use q.blk ⟨j,b',q,k1,hu,hq,rfl⟩ with h | h
        · exact hB _ (.inr h)
        · intro e; rw [e] at hlt; omega
      · exact hX.apart i j b b' p q h2 h3 hp' k2 (.inl k3) hne (place j q hq b' k1 k2 k3)
  · rintro B ⟨i,b,p,hb,ho,hp,rfl⟩
    rcases hX1 i b hb with h1 | ⟨h1,h2,h3⟩
    · rcases hS.own p.blk ⟨i,b,p,h1,ho,hp,rfl⟩ with ⟨i',b'',p',hb'',ho',hp',e⟩ | h
      · exact .inl ⟨i',b'',p',hsub _ _ hb'',ho',hp',e⟩
      · exact .inr h
    · exact .inl ⟨i,b,p,h2,h3,place i p hp b h1 h2 h3,rfl⟩
  · rintro B ⟨i,b,p,hb,ho,hp,rfl⟩
    rcases hX1 i b hb with h1 | ⟨h1,h2,h3⟩
    · rcases hS.use p.blk ⟨i,b,p,h1,ho,hp,rfl⟩ with ⟨i',b'',p',hb'',ho',hp',e⟩ | h
      · exact .inl ⟨i',b'',p',hsub _ _ hb'',ho',hp',e⟩
      · exact .inr h
    · exact .inl ⟨i,b,p,h2,.inl h3,place i p hp b h1 h2 h3,rfl⟩
  · intro B hB hn
    exact hS.frame B hB fun ⟨i,b,p,hb,ho,hp,e⟩ => hn ⟨i,b,p,hsub _ _ hb,ho,hp,e⟩
theorem Stp.slot {ρ0 ρ : PM} {m0 X : Mem} {w0 w : World} (h : Stp ρ0 m0 w0 ρ X w) {id : Nat} (hid : ρ id = none) (h0 : m0.next ≤ id) (h1 : id < X.next) {cs : List AV} {cur : Array Value} {ty : TypeId} (hv : VRs ρ cs cur.toList) :
    Stp ρ0 m0 w0 (upd ρ id ⟨w.heap.size,0,cur.size,false,none⟩) (X.put id ⟨cs,true⟩) (w.alloc (.cells cur ty)) := by
  have hl := hv.length
  have hrel := h.rel.new (m' := X.put id ⟨cs,true⟩) (cs := cs) hid (fun j => Mem.look_put X id _ j) (Nat.le_refl _) h1 (cur := cur) (ty := ty) (w' := w.alloc (.cells cur ty)) rfl (by simp at hl; omega) (by rw [hl,List.take_length]; exact hv)
  refine ⟨fun i hi => by rw [upd_ne _ _ (by omega)]; exact h.old i hi,hrel,h.next,Nat.le_trans h.size (by simp),h.os,h.tape,h.output,?_,?_,fun B hB hn => ?_,fun j hj hn => ?_⟩
  · rintro B ⟨i,b,p,hb,ho,hp,rfl⟩
    rw [Mem.look_put] at hb
    by_cases e : i = id
    · subst e; rw [upd_same] at hp; cases hp; exact .inr h.size
    · rw [if_neg e] at hb; rw [upd_ne _ _ e] at hp; exact h.own _ ⟨i,b,p,hb,ho,hp,rfl⟩
  · rintro B ⟨i,b,p,hb,ho,hp,rfl⟩
    rw [Mem.look_put] at hb
    by_cases e : i = id
    · subst e; rw [upd_same] at hp; cases hp; exact .inr h.size
    · rw [if_neg e] at hb; rw [upd_ne _ _ e] at hp; exact h.use _ ⟨i,b,p,hb,ho,hp,rfl⟩
  · rw [heap_alloc_old w _ (Nat.lt_of_lt_of_le hB h.size)]
    exact h.frame B hB hn
  · rw [Mem.look_put,if_neg (by omega)]; exact h.gone j hj hn
structure St where
  e : Env
  m : Mem
  h : List Mem
def Step1 (cf : CallF) (base : Nat) (o : AOper) (s : St) (v : AV) (s' : St) : Prop :=
  s'.e = putD s.e o.dst v ∧
  ((wanted s.e o.guard = false ∧ v = .undef ∧ s'.m = s.m ∧ s'.h = cond o.eff (s.m :: s.h) s.h) ∨
   (wanted s.e o.guard = true ∧
    ((∃ f args g first cap,o.op = .call f args ∧ f.ev s.e = .func g first cap ∧ cf g (first ++ (args.map (Opd.ev s.e) ++ cap)) s.m = some (v,s'.m) ∧ s'.h = s'.m :: s.h) ∨
     (∃ f args g first cap,o.op = .callZ f args ∧ f.ev s.e = .func g first cap ∧ branchA cf g first cap (args.map (Opd.ev s.e)) s.m = some (v,s'.m) ∧ s'.h = s'.m :: s.h) ∨
     ((∀ f args,o.op ≠ .call f args) ∧ stepOp s.e s.m s.h o.back (o.slot.map (base + ·)) o.op = some (v,s'.m) ∧ s'.h = cond o.eff (s'.m :: s.h) s.h))))
omit [Glo] in
theorem trace {cf : CallF} {base : Nat} : ∀ {l : List AOper} {e e' : Env} {m m' : Mem} {h : List Mem},runOps cf base l e m h = some (e',m') →
    ∃ (st : Nat → St) (v : Nat → AV),st 0 = ⟨e,m,h⟩ ∧ (st l.length).e = e' ∧ (st l.length).m = m' ∧ ∀ p o,l[p]? = some o → Step1 cf base o (st p) (v p) (st (p + 1))
  | [],e,e',m,m',h,hr => by
    simp only [runOps,Option.some.injEq,Prod.mk.injEq] at hr
    obtain ⟨rfl,rfl⟩ := hr
    exact ⟨fun _ => ⟨e,m,h⟩,fun _ => .undef,rfl,rfl,rfl,fun p o hp => by simp at hp⟩
  | o :: l, e,e',m,m',h,hr => by
    have glue : ∀ (v0 : AV) (m1 : Mem) (h1 : List Mem),runOps cf base l (putD e o.dst v0) m1 h1 = some (e',m') → Step1 cf base o ⟨e,m,h⟩ v0 ⟨putD e o.dst v0,m1,h1⟩ →
        ∃ (st : Nat → St) (v : Nat → AV),st 0 = ⟨e,m,h⟩ ∧ (st (l.length + 1)).e = e' ∧ (st (l.length + 1)).m = m' ∧ ∀ p q,(o :: l)[p]? = some q → Step1 cf base q (st p) (v p) (st (p + 1)) := by
      intro v0 m1 h1 hr1 hs
      obtain ⟨st,v,a1,a2,a3,a4⟩ := trace hr1
      refine ⟨fun p => match p with | 0 => ⟨e,m,h⟩ | p + 1 => st p,fun p => match p with | 0 => v0 | p + 1 => v p,rfl,a2,a3,fun p q hp => ?_⟩
      cases p with
      | zero => simp at hp; subst hp; simp only; rw [a1]; exact hs
      | succ p => exact a4 p q (by simpa using hp)
    simp only [runOps] at hr
    cases hw : wanted e o.guard
    · rw [hw] at hr
      exact glue .undef m _ hr ⟨rfl,.inl ⟨hw,rfl,rfl,rfl⟩⟩
    · rw [hw] at hr
      simp only [cond_true] at hr
      split at hr
      · rename_i f args hop
        split at hr
        · rename_i g first cap hf
          split at hr
          · rename_i v0 m1 hc
            exact glue v0 m1 _ hr ⟨rfl,.inr ⟨hw,.inl ⟨f,args,g,first,cap,hop,hf,hc,rfl⟩⟩⟩
          · cases hr
        · cases hr
      · rename_i f args hop
        split at hr
        · rename_i g first cap hf
          split at hr
          · rename_i v0 m1 hc
            exact glue v0 m1 _ hr ⟨rfl,.inr ⟨hw,.inr (.inl ⟨f,args,g,first,cap,hop,hf,hc,rfl⟩)⟩⟩
          · cases hr
        · cases hr
      · rename_i hnc _
        split at hr
        · rename_i v0 m1 hst
          exact glue v0 m1 _ hr ⟨rfl,.inr ⟨hw,.inr (.inr ⟨hnc,hst,rfl⟩)⟩⟩
        · cases hr
omit [Glo] in
theorem still_of_sort {e : Env} {m m' : Mem} {h : List Mem} {bk : Nat} {sl : Option Nat} {x : AOp} {v : AV} (hs : x.sort = 0 ∨ x.sort = 1) (he : stepOp e m h bk sl x = some (v,m')) : m' = m := by
  cases x <;> simp [AOp.sort] at hs <;> simp only [stepOp] at he
  all_goals (repeat' split at he)
  all_goals first
    | (cases he; done)
    | (simp only [Option.some.injEq,Prod.mk.injEq] at he; exact he.2.symm)
    | skip
  all_goals (simp only [Bool.cond_eq_ite] at he; (repeat' split at he) <;> first | (cases he; done) | (simp only [Option.some.injEq,Prod.mk.injEq] at he; exact he.2.symm))
omit [Glo] in
theorem loadBack_all (g : Bool) (n : Nat) (x : AV) : ∀ (k : Nat) (h : List Mem) (o : Option AV) (v : AV),loadBack g n x k h o = some v → (∀ u,o = some u → u = v) ∧ ∀ d,d < k → ∃ m,h[d]? = some m ∧ loadAt m g n x = some v
  | 0,h,o,v,hl => by
    simp only [loadBack] at hl
    exact ⟨fun u hu => by rw [hu] at hl; exact Option.some.inj hl,fun d hd => absurd hd (Nat.not_lt_zero _)⟩
  | k + 1,[],o,v,hl => by simp [loadBack] at hl
  | k + 1,m :: h,none,v,hl => by
    simp only [loadBack] at hl
    split at hl
    · rename_i u hu
      obtain ⟨h1,h2⟩ := loadBack_all g n x k h (some u) v hl
      have := h1 u rfl
      subst this
      refine ⟨fun u hu => (by cases hu),fun d hd => ?_⟩
      cases d with
      | zero => exact ⟨m,rfl,hu⟩
      | succ d => simpa using h2 d (by omega)
    · cases hl
  | k + 1,m :: h,some u0,v,hl => by
    simp only [loadBack] at hl
    split at hl
    · rename_i u hu
      cases hb : AV.beq u u0
      · rw [hb] at hl; cases hl
      · rw [hb] at hl
        have hu0 := AV.beq_eq _ _ hb
        subst hu0
        obtain ⟨h1,h2⟩ := loadBack_all g n x k h (some u) v hl
        have := h1 u rfl
        subst this
        refine ⟨fun u hu => (by cases hu; rfl),fun d hd => ?_⟩
        cases d with
        | zero => exact ⟨m,rfl,hu⟩
        | succ d => simpa using h2 d (by omega)
    · cases hl
end Go.Am
