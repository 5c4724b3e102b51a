/-
  THE ABSTRACT MACHINE, 16: what is checked gives what is used; regions; calls; a call of the abstract machine is a call of the model.
-/
import Derived.Test.YtoppeojgadbjeaaAm15
import Derived.Test.YtoppeojgadbjeaaAm21
import Derived.Test.YtoppeojgadbjeaaAm25
set_option linter.unusedVariables false
set_option linter.unusedSimpArgs false
namespace Go.Am
variable [Glo]
variable {P : Program}
omit [Glo] in
theorem cDrawn_spec {br : Bool} {ops : Array Oper} {sorts bs cn pos : List Nat} : ∀ {l : List Nat} {p : Nat} {aops : List AOper},cDrawn P br ops sorts bs cn pos p l = some aops → aops.length = l.length ∧
    ∀ (q i : Nat),l[q]? = some i → ∃ (o : Oper) (g : Option (Nat × Bool)),ops[i]? = some o ∧ guardOf ops o.guard = some g ∧ aops[q]? = some ⟨o.dst,awayOf (flagA P br ops sorts pos ops.size i) (flagC P br ops sorts pos ops.size i) (opOf P o.op),g,cond (Nat.beq (sorts.getD i 0) 1) (backOf sorts bs cn ops.size (p + q) i) 0,
      cond (Nat.beq (sorts.getD i 0) 2) (some ((List.range i).filter fun j => Nat.beq (sorts.getD j 0) 2).length) none,Nat.beq (sorts.getD i 0) 3⟩
  | [],p,aops,h => by
    simp only [cDrawn,Option.some.injEq] at h; subst h
    exact ⟨rfl,fun q i hq => by simp at hq⟩
  | i :: r,p,aops,h => by
    simp only [cDrawn] at h
    split at h
    · cases h
    · rename_i o ho
      split at h
      · rename_i g s hg hs
        cases h
        obtain ⟨h1,h2⟩ := cDrawn_spec hs
        refine ⟨by simp [h1],fun q j hq => ?_⟩
        cases q with
        | zero => simp at hq; subst hq; exact ⟨o,g,ho,hg,rfl⟩
        | succ q =>
          obtain ⟨o',g',a1,a2,a3⟩ := h2 q j (by simpa using hq)
          exact ⟨o',g',a1,a2,by rw [List.getElem?_cons_succ,a3,show p + 1 + q = p + (q + 1) by omega]⟩
      · cases h
omit [Glo] in
theorem drawn_DF {br : Bool} {ops : Array Oper} {aops : List AOper} {sorts bs cn posL : List Nat} (hso : sorts = ops.toList.map fun o => (opOf P o.op).sort) (hbs : bs = befores ops.toList [])
    (hpo : posL = (List.range ops.size).map fun i => cn.idxOf i)
    (hok : drawOk sorts bs cn posL (ops.toList.map (namesOf P ops)) (ops.toList.map fun o => o.dst) ops.size = true) (hc : cDrawn P br ops sorts bs cn posL 0 cn = some aops) :
    (∀ i j,direct ops i j → j < i) ∧
    DF P ops aops ((List.range ops.size).filter fun j => Nat.beq (sorts.getD j 0) 2).length (fun i => posL.getD i ops.size) (fun i => backOf sorts bs cn ops.size (posL.getD i ops.size) i)
      (fun i => ((List.range i).filter fun j => Nat.beq (sorts.getD j 0) 2).length) (fun p => effs sorts (cn.take p)) (flagA P br ops sorts posL ops.size) (flagC P br ops sorts posL ops.size) := by
  have hsort : ∀ i o,ops[i]? = some o → sorts.getD i 0 = sortO P o := fun i o ho => by
    have : sorts[i]? = some (sortO P o) := by rw [hso,List.getElem?_map,show ops.toList[i]? = some o by simpa using ho]; rfl
    rw [List.getD,this]; rfl
  have hns : ∀ i o,ops[i]? = some o → (ops.toList.map (namesOf P ops)).getD i [] = namesOf P ops o := fun i o ho => by
    rw [List.getD,List.getElem?_map,show ops.toList[i]? = some o by simpa using ho]; rfl
  have hds : ∀ i o,ops[i]? = some o → (ops.toList.map fun o => o.dst).getD i none = o.dst := fun i o ho => by
    rw [List.getD,List.getElem?_map,show ops.toList[i]? = some o by simpa using ho]; rfl
  simp only [drawOk,Bool.and_eq_true,List.all_eq_true,List.mem_range,Nat.blt_eq,Nat.beq_eq,Bool.or_eq_true,Bool.not_eq_true',List.any_eq_true,List.mem_filter,Nat.ble_eq] at hok
  obtain ⟨⟨⟨⟨⟨⟨hlen,h1⟩,h1'⟩,hpow⟩,h2⟩,h3⟩,h4,h5⟩ := hok
  have hneed : ∀ j i,need ops j i ↔ (bs.getD j 0).testBit i = true := fun j i => by rw [hbs]; exact Iff.rfl
  have hlt : ∀ i j,i < ops.size → need ops i j → j < i := fun i j hi hn => by
    refine Nat.lt_of_not_le fun hle => ?_
    have := Nat.testBit_lt_two_pow (x := bs.getD i 0) (i := j) (Nat.lt_of_lt_of_le (hpow i hi) (Nat.pow_le_pow_right (by decide) hle))
    rw [(hneed i j).1 hn] at this; cases this
  have hcn : ∀ i,i < ops.size → cn[posL.getD i ops.size]? = some i := fun i hi => by
    obtain ⟨a1,a2⟩ := h1 i hi
    rw [List.getD,List.getElem?_eq_getElem (by omega)] at a2
    rw [List.getElem?_eq_getElem (by omega)]
    simpa using a2
  obtain ⟨c1,c2⟩ := cDrawn_spec hc
  refine ⟨fun i j hd => ?_,?_⟩
  · have hd' := hd
    obtain ⟨o,ho,_⟩ := hd
    exact hlt i j (lt_of_get ho) ((befores_bit ops i j).2 ⟨j,hd',.inl rfl⟩)
  have frank : ∀ i,((List.range (i + 1)).filter fun j => Nat.beq (sorts.getD j 0) 2).length = ((List.range i).filter fun j => Nat.beq (sorts.getD j 0) 2).length + cond (Nat.beq (sorts.getD i 0) 2) 1 0 := fun i => by
    rw [List.range_succ,List.filter_append,List.length_append]
    simp only [List.filter_cons,List.filter_nil]
    cases hb : Nat.beq (sorts.getD i 0) 2 <;> simp
  have fmono : ∀ i d,((List.range i).filter fun j => Nat.beq (sorts.getD j 0) 2).length ≤ ((List.range (i + d)).filter fun j => Nat.beq (sorts.getD j 0) 2).length := fun i d => by
    induction d with
    | zero => exact Nat.le_refl _
    | succ d ih => rw [show i + (d + 1) = i + d + 1 from rfl,frank]; omega
  have fstrict : ∀ i j o,ops[i]? = some o → sortO P o = 2 → i < j → ((List.range i).filter fun j => Nat.beq (sorts.getD j 0) 2).length < ((List.range j).filter fun j => Nat.beq (sorts.getD j 0) 2).length := fun i j o ho hs hij => by
    have e := frank i
    rw [show Nat.beq (sorts.getD i 0) 2 = true by rw [hsort i o ho]; simpa using hs] at e
    simp only [cond_true] at e
    have := fmono (i + 1) (j - (i + 1))
    rw [show i + 1 + (j - (i + 1)) = j by omega] at this
    omega
  have hpair : ∀ i j,i < ops.size → j < ops.size → (madeFor P ops i j && Nat.blt (posL.getD i ops.size) (posL.getD j ops.size) && (List.range ops.size).all fun k => Nat.ble (sorts.getD k 0) 1 || Nat.ble (posL.getD k ops.size) (posL.getD i ops.size) || (Nat.ble (posL.getD j ops.size) (posL.getD k ops.size) && Nat.beq (sorts.getD k 0) 3)) = true →
      Pair P ops (fun i => posL.getD i ops.size) i j := by
    intro i j hi hj h
    simp only [Bool.and_eq_true,List.all_eq_true,List.mem_range,Nat.blt_eq,Bool.or_eq_true,Nat.ble_eq,Nat.beq_eq] at h
    obtain ⟨⟨g1,g2⟩,g3⟩ := h
    unfold madeFor at g1
    split at g1
    · rename_i a b ha hb
      split at g1
      · rename_i n b' s' x' t f t' l q1 q2 q3
        simp only [Bool.and_eq_true,Nat.beq_eq] at g1
        obtain ⟨rfl,_⟩ := g1
        refine ⟨a,b,_,_,_,_,_,_,_,ha,hb,q1,q2,q3,g2,fun k o ho => ?_⟩
        rcases g3 k (lt_of_get ho) with (c | c) | ⟨c,c'⟩
        · exact .inl (by rw [← hsort k o ho]; exact c)
        · exact .inr (.inl c)
        · exact .inr (.inr ⟨c,by rw [← hsort k o ho]; exact c'⟩)
      · cases g1
    · cases g1
  exact
    { fa := fun i hi => by
        simp only [flagA,Bool.and_eq_true,List.any_eq_true,List.mem_range] at hi
        obtain ⟨_,j,hj,h1,h2⟩ := hi
        have hii : i < ops.size := by
          have := h1.1
          unfold madeFor at this
          split at this
          · rename_i a b ha hb; exact lt_of_get ha
          · cases this
        exact ⟨j,hpair i j hii hj (by rw [Bool.and_eq_true,Bool.and_eq_true]; exact ⟨h1,h2⟩)⟩
      fc := fun j hj => by
        simp only [flagC,Bool.and_eq_true,List.any_eq_true,List.mem_range] at hj
        obtain ⟨hbr,i,hi,h1,h2⟩ := hj
        have hjj : j < ops.size := by
          have := h1.1
          unfold madeFor at this
          split at this
          · rename_i a b ha hb; exact lt_of_get hb
          · cases this
        refine ⟨i,hpair i j hi hjj (by rw [Bool.and_eq_true,Bool.and_eq_true]; exact ⟨h1,h2⟩),?_⟩
        simp only [flagA,Bool.and_eq_true,List.any_eq_true,List.mem_range]
        exact ⟨hbr,j,hjj,h1,h2⟩
      len := by rw [c1,hlen]
      at_ := fun i o ho => by
        obtain ⟨o',g,a1,a2,a3⟩ := c2 _ i (hcn i (lt_of_get ho))
        rw [ho] at a1; cases a1
        refine ⟨g,a2,?_⟩
        rw [a3,hsort i o ho]
        simp only [Nat.zero_add]
      lt := fun i hi => (h1 i hi).1
      onto := fun p hp => ⟨cn.getD p ops.size,(h1' p hp).1,(h1' p hp).2⟩
      inj := fun i j hi hj he => by
        have a := hcn i hi
        have b := hcn j hj
        have he' : posL.getD i ops.size = posL.getD j ops.size := he
        rw [he',b] at a
        exact (Option.some.inj a).symm
      bit := fun i j hi hj hn => by
        rcases h2 j hj i hi with h | h
        · rw [(hneed j i).1 hn] at h; cases h
        · exact h
      dist := fun i j a b t hne hi hj ha hb => by
        have key : ∀ (i j : Nat) (a b : Oper),i < j → ops[i]? = some a → ops[j]? = some b → a.dst = some t → b.dst = some t → False := fun i j a b hij hi hj ha hb => by
          have := (h3 j (lt_of_get hj) i hij).1
          rw [hds i a hi,hds j b hj,ha,hb] at this
          simp at this
        rcases Nat.lt_or_gt_of_ne hne with h | h
        · exact key i j a b h hi hj ha hb
        · exact key j i b a h hj hi hb ha
      comp := fun i j a b hij hi hj => by
        rcases (h3 j (lt_of_get hj) i hij).2 with h | ⟨⟨q1,q2⟩,q3⟩
        · exact .inl ((hneed j i).2 h)
        · refine .inr ⟨?_,fun t ht hm => ?_,fun t ht hm => ?_⟩
          · rintro ⟨e1,e2⟩
            rw [hsort i a hi,hsort j b hj,e1,e2] at q1
            simp at q1
          · rw [hds i a hi,hns j b hj,ht] at q2
            simp only [Bool.not_eq_true',List.contains_eq_mem,decide_eq_false_iff_not] at q2
            exact q2 hm
          · rw [hds j b hj,hns i a hi,ht] at q3
            simp only [Bool.not_eq_true',List.contains_eq_mem,decide_eq_false_iff_not] at q3
            exact q3 hm
      late := fun i e a b hi he ha hb hlt' => by
        rcases h4 i (lt_of_get hi) with h | h
        · exact absurd (by rw [← hsort i a hi]; exact h) ha
        · rcases h e ⟨lt_of_get he,by rw [hsort e b he]; exact hb⟩ with h | ⟨e',⟨k1,k2⟩,⟨k3,k4⟩,k5⟩
          · have hlt2 : posL.getD i ops.size < posL.getD e ops.size := hlt'
            rw [← Nat.blt_eq] at hlt2; rw [hlt2] at h; cases h
          · refine ⟨e',ops[e'],by simp [k1],?_,k3,k4,(hneed e' i).2 k5⟩
            rw [← hsort e' ops[e'] (by simp [k1])]; exact k2
      win := fun i a hi ha => by
        rcases h5 i (lt_of_get hi) with h | ⟨k1,k2⟩
        · rw [hsort i a hi,ha] at h; simp at h
        · refine ⟨k1,fun e b he hb hlt' hle => (hneed i e).2 ?_⟩
          rcases k2 e ⟨lt_of_get he,by rw [hsort e b he]; exact hb⟩ with (h | h) | h
          · have hlt2 : posL.getD e ops.size < posL.getD i ops.size := hlt'
            rw [← Nat.blt_eq] at hlt2; rw [hlt2] at h; cases h
          · rw [← Nat.ble_eq] at hle; rw [hle] at h; cases h
          · exact h
      cnt_succ := fun i a hi => by
        have := hcn i (lt_of_get hi)
        show effs sorts (cn.take (posL.getD i ops.size + 1)) = _
        rw [List.take_add_one,this]
        simp only [effs,List.filter_append,List.length_append,Option.toList_some]
        simp only [List.filter_cons,List.filter_nil,hsort i a hi]
        cases hb : Nat.beq (sortO P a) 3 <;> simp
      rank_lt := fun i a hi ha => fstrict i _ a hi ha (lt_of_get hi)
      rank_inj := fun i j a b hi hj ha hb he => by
        rcases Nat.lt_trichotomy i j with h | h | h
        · have := fstrict i j a hi ha h; omega
        · exact h
        · have := fstrict j i b hj hb h; omega }
theorem Rel.later {ρ : PM} {m : Mem} {w w' : World} (h : Rel ρ m w) (hh : w'.heap = w.heap) (n : Nat) : Rel ρ (m.reserve n) w' := by
  refine ⟨fun i hi => h.fresh i (by rw [Mem.next_reserve] at hi; omega),fun i b hb => ?_,fun i j b b' p q hb ho hp hb' hu hne hq => h.apart i j b b' p q hb ho hp hb' hu hne hq⟩
  obtain ⟨p,hp,hr⟩ := h.blk i b hb
  exact ⟨p,hp,hr.kept (PLe.refl _) fun _ => by rw [hh]⟩
theorem Stp.later {ρ : PM} {m : Mem} {w w' : World} (h : Rel ρ m w) (hh : w'.heap = w.heap) (h1 : w'.os = w.os) (h2 : w'.tape = w.tape) (h3 : w'.output = w.output) (n : Nat) : Stp ρ m w ρ (m.reserve n) w' :=
  ⟨fun _ _ => rfl,h.later hh n,by rw [Mem.next_reserve]; omega,by rw [hh]; exact Nat.le_refl _,h1,h2,h3,fun _ h => .inl h,fun _ h => .inl h,fun _ _ _ => by rw [hh],fun _ _ h => h⟩
theorem reg_ok {C : Prog} {n : Nat} (hC : ProgOk C P) (hmix : P.follows .mixedOrders = true) (hcf : CallOk C P n) (hrn : RndOk C P n) : RegOk P C n := by
  intro br q k id ops draw r aops hc e m e' m' hrun ro ρ w a hR hE hsz Q hQ
  simp only [cCode] at hc
  cases hk : dstOk k ops.toList
  · simp [hk] at hc
  · simp only [hk,cond_true] at hc
    cases draw with
    | false =>
      simp only [cond_false,Option.map_eq_some_iff,ACode.region.injEq] at hc
      obtain ⟨l,hl,rfl,rfl⟩ := hc
      have h0 : Stp ρ m w ρ (m.reserve 0) w := Stp.later hR rfl rfl rfl rfl 0
      refine wpIn_region ?_
      have := plain_sound (ro := ro) hC hcf hrn (Q := Q) (base := m.next) (k := k) (e' := e') (m0 := m) (m' := m') (ρ0 := ρ) (w0 := w) (sz := a.tmps.size) (ds := a.defers) hQ ops.toList 0 l e (m.reserve 0) [m.reserve 0] ρ w a rfl hl hk hrun hE h0.rel h0 hsz rfl rfl
      simpa [List.range_eq_range'] using this
    | true =>
      simp only [cond_true] at hc
      generalize hso : (ops.toList.map fun o => (opOf P o.op).sort) = sorts at hc
      generalize hbs : befores ops.toList [] = bs at hc
      generalize hcn : canon sorts bs ops.size = cn at hc
      generalize hpo : ((List.range ops.size).map fun i => cn.idxOf i) = posL at hc
      cases hok : drawOk sorts bs cn posL (ops.toList.map (namesOf P ops)) (ops.toList.map fun o => o.dst) ops.size
      · rw [hok] at hc; cases hc
      · rw [hok] at hc
        simp only [cond_true,Option.map_eq_some_iff,ACode.region.injEq] at hc
        obtain ⟨l,hl,rfl,rfl⟩ := hc
        obtain ⟨hlt,D⟩ := drawn_DF hso.symm hbs.symm hpo.symm hok hl
        obtain ⟨st,v,s0,s1,s2,T⟩ := trace hrun
        rw [D.len] at s1 s2
        obtain ⟨cs,hcs⟩ := cs_exist D T
        refine wpIn_region_draw fun t => ?_
        rw [hmix]
        have hs0 : Stp ρ m w ρ (m.reserve ((List.range ops.size).filter fun j => Nat.beq (sorts.getD j 0) 2).length) { w with drawn := w.drawn + 1 } := Stp.later (w' := { w with drawn := w.drawn + 1 }) hR rfl rfl rfl rfl _
        have hnone : ∀ d,(m.reserve ((List.range ops.size).filter fun j => Nat.beq (sorts.getD j 0) 2).length).look (m.next + d) = none := fun d => by
          rw [Mem.look_reserve]
          cases hlk : m.look (m.next + d) with
          | none => rfl
          | some b => have := hR.lt hlk; omega
        refine drawn_lin hC hcf hrn D T hk hcs (Nat.le_refl _) (Q := Q) (sz := a.tmps.size) (ds := a.defers) (fun a' w' ρ' q1 q2 q3 q4 => hQ a' w' ρ' (by rw [← s1]; exact q1) (by rw [← s2]; exact q2) q3 q4) _ _ (lin_schedule ops hlt t) 0 ρ (m.reserve ((List.range ops.size).filter fun j => Nat.beq (sorts.getD j 0) 2).length) e a _ ?_ hsz rfl rfl
        exact
          { i1 := Nat.zero_le _
            i2 := fun i hi h => absurd h (Nat.not_lt_zero _)
            i3 := fun i o ho h3 hle h => h
            i4 := by rw [s0]; rfl
            i5 := fun i k h => h.elim
            i6 := fun t => ⟨fun j b hj hb h => h.elim,fun _ => by rw [s0]⟩
            i7 := hE
            i8 := hs0
            i9 := by rw [s0]
            i10 := fun j b hb => by rw [s0] at hb; exact hb
            i11 := fun i o ho h2 h => h.elim
            i12 := fun j b hb => .inl (by rw [s0]; exact hb)
            i13 := fun i o ho h2 h => ⟨hR.fresh _ (Nat.le_add_right _ _),hnone _⟩
            i14 := by rw [Mem.next_reserve]; exact Nat.le_refl _
            i15 := fun i o ho h2 hle => by rw [s0]; exact hnone _
            i16 := fun i j o t ho hf hP h1 h2 => absurd h1 (Nat.not_lt_zero _) }
def resG (tmps : Array Value) : ResultVar → Sem Value
  | .tmp t => pure (tmps.getD t undef)
  | .cell b t => do loadVar t (← asAddr (tmps.getD b undef))
omit [Glo] in
theorem results_eq (fn : Func) (tmps : Array Value) : Go.results fn tmps = (do let vs ← fn.results.mapM (resG tmps); pure (if h : vs.size = 1 then vs[0] else .tuple vs) : Sem Value) := by
  unfold Go.results
  congr 2
theorem run_res {ρ : PM} {e : Env} {a : Act} {m : Mem} {w : World} (hE : EnvR P ρ e a) (hR : Rel ρ m w) : ∀ {rs : List ResultVar} {ars : List ARes} {vs : List AV},cRes P rs = some ars → resAll e m ars = some vs →
    ∃ us : List Value,VRs ρ vs us ∧ (rs.mapM (m := Sem) (resG a.tmps)).run P w = .ok us w
  | [],ars,vs,hc,hr => by
    simp only [cRes,Option.some.injEq] at hc; subst hc
    simp only [resAll,Option.some.injEq] at hr; subst hr
    exact ⟨[],.nil,by simp⟩
  | .tmp t :: rs,ars,vs,hc,hr => by
    simp only [cRes,Option.map_eq_some_iff] at hc; obtain ⟨s,hs,rfl⟩ := hc
    simp only [resAll,resOf] at hr
    split at hr
    · rename_i vs' hvs
      cases hr
      obtain ⟨us,h1,h2⟩ := run_res hE hR hs hvs
      exact ⟨_ :: us,.cons (hE.slot t) h1,by simp only [List.mapM_cons,resG,Sem.run_bind,Sem.run_pure,Result.andThen_ok,h2]⟩
    · cases hr
  | .cell b ty :: rs,ars,vs,hc,hr => by
    simp only [cRes] at hc
    split at hc <;> cases hc
    rename_i n g s h1 h2 hs
    simp only [resAll,resOf] at hr
    split at hr
    · rename_i v hv
      split at hr
      · rename_i vs' hvs
        cases hr
        obtain ⟨us,k1,k2⟩ := run_res hE hR hs hvs
        obtain ⟨u,q1,q2⟩ := load_sound hR h2 h1 (hE.slot b) hv
        refine ⟨u :: us,.cons q2 k1,?_⟩
        have hsl := hE.slot b
        have hA : ∃ A,a.tmps.getD b undef = .pointer (some A) := by
          generalize e.at b = x at hsl hv
          generalize a.tmps.getD b undef = cx at hsl
          cases x <;> simp only [loadAt] at hv <;> first | (cases hv; done) | skip
          cases hsl
          exact ⟨_,rfl⟩
        obtain ⟨A,hA⟩ := hA
        rw [hA] at q1
        simp only [Instr.loadAt,Instr.sureAddr,pure_bind] at q1
        have hAA : (asAddr (.pointer (some A))).run P w = .ok A w := rfl
        simp only [List.mapM_cons,resG,Sem.run_bind,hA,hAA,Sem.run_pure,Result.andThen_ok,q1,k2]
      · cases hr
    · cases hr
theorem Stp.shut {ρ ρ' : PM} {m m' : Mem} {w w' : World} (h : Stp ρ m w ρ' m' w') {r : Nat} (hr : w.heap.size ≤ r) (hu : ¬ UseAt ρ' m' r) (o : Obj) : Stp ρ m w ρ' m' (w'.putObj r o) := by
  have hoth : ∀ B,B ≠ r → (w'.putObj r o).heap[B]? = w'.heap[B]? := fun B hB => by
    simp only [World.putObj]
    rw [Array.getElem?_setIfInBounds,if_neg (Ne.symm hB)]
  refine ⟨h.old,⟨h.rel.fresh,fun i b hb => ?_,h.rel.apart⟩,h.next,by simpa [World.putObj] using h.size,h.os,h.tape,h.output,h.own,h.use,fun B hB hn => ?_,h.gone⟩
  · obtain ⟨p,hp,hr'⟩ := h.rel.blk i b hb
    exact ⟨p,hp,hr'.kept (PLe.refl _) fun hu' => hoth _ fun e => hu ⟨i,b,p,hb,hu',hp,e⟩⟩
  · rw [hoth B (by omega)]
    exact h.frame B hB hn
theorem leaves_marks {ρ ρ' : PM} {m m' : Mem} {w : World} {fn : Func} {tmps : Array Value} {R : Ending → World → Prop} (hfin : ∀ wf,Stp ρ m w ρ' m' wf → ∃ v,(Go.results fn tmps).run P wf = .ok v wf ∧ R (.returned v) wf) :
    ∀ (rs : List Nat) (wc : World),Stp ρ m w ρ' m' wc → rs.Nodup → (∀ r ∈ rs,w.heap.size ≤ r ∧ wc.heap[r]? = some (.deferred (some [])) ∧ ¬ UseAt ρ' m' r) →
      LeavesInM Fence.wide 0 P fn tmps R (rs.map fun r => ({ target := .collected r,args := #[] } : Deferred)) .returning wc
  | [],wc,hs,_,_ => hfin wc hs
  | r :: rs,wc,hs,hn,hall => by
    obtain ⟨g1,g2,g3⟩ := hall r (by simp)
    refine ⟨by simp,.inl ⟨r,_,rfl,run_takeDeferred g2,?_⟩⟩
    refine leaves_marks hfin rs _ (hs.shut g1 g3 _) (List.nodup_cons.1 hn).2 fun r' hr' => ?_
    obtain ⟨k1,k2,k3⟩ := hall r' (by simp [hr'])
    refine ⟨k1,?_,k3⟩
    simp only [World.putObj]
    rw [Array.getElem?_setIfInBounds,if_neg (by rintro rfl; exact (List.nodup_cons.1 hn).1 hr')]
    exact k2
theorem loops_ok {C : Prog} (hC : ProgOk C P) {f : Nat} {fn : Func} {c : Code} (hfn : P.funcs[f]? = some fn) (hb : fn.body = some c) (h : (Nat.ble (loopsN c) 50 && (Nat.beq (loopsN c) 0 || Nat.blt f 1000)) = true) : LoopsOk P (qBase f) fn.ntmps c := by
  refine .inr fun i ps a b hi ca cb hca hcb => ?_
  have hlen : i < loopsN c := by rw [← loopsOf_length]; exact (List.getElem?_eq_some_iff.1 hi).1
  simp only [Bool.and_eq_true,Bool.or_eq_true,Nat.ble_eq,Nat.beq_eq,Nat.blt_eq] at h
  have hf : f < 1000 := by
    rcases h.2 with h | h
    · omega
    · exact h
  refine ⟨?_,by unfold qBase; omega⟩
  refine (hC.rnd _ _).2 ?_
  unfold rndOf
  rw [show (Nat.beq ((qBase f + 2 * i) % 2) 0 && (Nat.ble 100000 (qBase f + 2 * i) && Nat.blt (qBase f + 2 * i) 200000)) = true by
    simp only [Bool.and_eq_true,Nat.beq_eq,Nat.ble_eq,Nat.blt_eq]; unfold qBase; omega]
  simp only [cond_true]
  rw [show (qBase f + 2 * i) / 100 % 1000 = f by unfold qBase; omega,show (qBase f + 2 * i) % 100 / 2 = i by unfold qBase; omega,hfn]
  simp only [hb,hi,hca,hcb]
theorem call_of_exec {C : Prog} {n : Nat} (hC : ProgOk C P) (hreg : ∀ j,j < n → RegOk P C j ∧ CallOk C P j) : CallOk C P n := by
  intro f args m v m' hlow hcall cargs ρ w hargs hR hG
  unfold callA at hcall
  split at hcall
  · rename_i af haf
    obtain ⟨fn,hfn,hname,hbody,br,hcf⟩ := (hC.fn f af hlow haf).out
    unfold cFuncB at hcf
    split at hcf
    · rename_i c rs hb hrs
      cases hbd : (Nat.ble (loopsN c) 50 && (Nat.beq (loopsN c) 0 || Nat.blt f 1000))
      · rw [hbd] at hcf; cases hcf
      rw [hbd] at hcf
      simp only [cond_true,Option.map_eq_some_iff] at hcf
      obtain ⟨ac,hac,rfl⟩ := hcf
      have fin : ∀ (x : AExit) (e' : Env) (m1 : Mem),exec C n ac (Env.of args) m = some (x,e',m1) → (x = .normal ∨ x = .ret) → results ⟨rs,ac⟩ e' m1 = some v → m1 = m' → Calls P f cargs w (RetR ρ m w v m') := by
        intro x e' m1 hx hxx hres hm
        subst hm
        refine callsIn_wide.1 (callsIn_of_wp_marks (F := Fence.wide) (n := 0) hfn hb trivial (wpIn_mono (exec_sound hC n hreg c br (qBase f) fn.ntmps ac (Env.of args) m x e' m1 hac hx none (loops_ok hC hfn hb hbd) (fun _ => rfl) w.heap.size ρ w _ (Nat.le_refl _) hR (env_start hargs hG fn.ntmps) (by simp; omega) (Mk.nil _ _ _ _)) ?_))
        rintro X a' w1 ⟨hX,ρ',hE',hS1,hsz',hM'⟩
        have key0 : ∀ w',Stp ρ m w ρ' m1 w' → ∃ u,(Go.results fn a'.tmps).run P w' = .ok u w' ∧ RetR ρ m w v m1 (.returned u) w' := by
          intro w' hS'
          unfold results at hres
          have hmap : ∀ {vs us},resAll e' m1 rs = some vs → VRs ρ' vs us →
              (fn.results.toList.mapM (m := Sem) (resG a'.tmps)).run P w' = .ok us w' →
              (fn.results.mapM (m := Sem) (resG a'.tmps)).run P w' = .ok us.toArray w' := by
            intro vs us _ _ h
            rw [Array.mapM_eq_mapM_toList,map_eq_pure_bind,Sem.run_bind,h]
            rfl
          split at hres
          · rename_i v1 hall
            cases hres
            obtain ⟨us,k1,k2⟩ := run_res hE' hS'.rel hrs hall
            have k3 := hmap hall k1 k2
            cases k1 with
            | cons q1 q2 =>
              cases q2
              rename_i u
              refine ⟨u,?_,u,ρ',rfl,q1,hS'⟩
              simp only [results_eq,Sem.run_bind]
              rw [k3]
              rfl
          · rename_i vs hns hall
            cases hres
            obtain ⟨us,k1,k2⟩ := run_res hE' hS'.rel hrs hall
            have k3 := hmap hall k1 k2
            refine ⟨.tuple us.toArray,?_,.tuple us.toArray,ρ',rfl,.tup (by simpa using k1),hS'⟩
            simp only [results_eq,Sem.run_bind]
            rw [k3]
            have hsz : us.toArray.size ≠ 1 := by
              intro h1
              have hl := k1.length
              simp at h1
              rw [h1] at hl
              cases vs with
              | nil => simp at hl
              | cons y ys => cases ys with
                | nil => exact hns y rfl
                | cons _ _ => simp at hl
            simp only [Result.andThen_ok,hsz,dite_false,Sem.run_pure]
          · cases hres
        have key : LeavesInM Fence.wide 0 P fn a'.tmps (RetR ρ m w v m1) a'.defers .returning w1 := by
          obtain ⟨rs,hrs1,hrs2,hrs3⟩ := hM'
          rw [hrs1]
          exact leaves_marks key0 rs w1 hS1 hrs2 hrs3
        rcases hxx with rfl | rfl
        · cases hX; exact key
        · cases hX; exact key
      simp only at hcall
      split at hcall
      · rename_i e' m1 hx
        split at hcall
        · rename_i v1 hres
          simp only [Option.some.injEq,Prod.mk.injEq] at hcall; obtain ⟨rfl,rfl⟩ := hcall
          exact fin _ e' m1 hx (.inl rfl) hres rfl
        · cases hcall
      · rename_i e' m1 hx
        split at hcall
        · rename_i v1 hres
          simp only [Option.some.injEq,Prod.mk.injEq] at hcall; obtain ⟨rfl,rfl⟩ := hcall
          exact fin _ e' m1 hx (.inr rfl) hres rfl
        · cases hcall
      · cases hcall
    · cases hcf
  · cases hcall
theorem call_ok {C : Prog} (hC : ProgOk C P) (hmix : P.follows .mixedOrders = true) : ∀ n,CallOk C P n := by
  have key : ∀ n,(∀ j,j < n → RegOk P C j ∧ CallOk C P j) := by
    intro n
    induction n with
    | zero => exact fun j hj => absurd hj (Nat.not_lt_zero _)
    | succ n ih =>
      have hc := call_of_exec hC ih
      intro j hj
      by_cases e : j = n
      · subst e; exact ⟨reg_ok hC hmix hc (rnd_of_exec hC ih),hc⟩
      · exact ih j (by omega)
  exact fun n => (key (n + 1) n (Nat.lt_succ_self n)).2
#print axioms call_ok
end Go.Am
