/-
  THE ABSTRACT MACHINE, 9: a region in the order of the text; code; calls: what the abstract machine's run gives, the model's run gives too (but for regions that draw their order: the next text).
-/
import Derived.Test.YtoppeojgadbjeaaAm8
import Derived.LoopN
import Derived.LoopNIn
import Derived.RangeFuncRecord
set_option linter.unusedVariables false
set_option linter.unusedSimpArgs false
namespace Go.Am
variable [Glo]
variable {P : Program} {ρ : PM} {e : Env} {a : Act}
def Glob (P : Program) (ρ : PM) : Prop := ∀ g,g < P.globals.size → ∃ p,ρ g = some p ∧ p.blk = g ∧ p.off = 0 ∧ p.map = false
def FW (ro : Option Nat) : Fence := { Fence.wide with round := ro }
def RetR (ρ : PM) (m : Mem) (w : World) (v : AV) (m' : Mem) : Ending → World → Prop :=
  fun E w' => ∃ u ρ',E = .returned u ∧ VR ρ' v u ∧ Stp ρ m w ρ' m' w'
def CallOk (C : Prog) (P : Program) (n : Nat) : Prop :=
  ∀ f args m v m',f < 100000 → callA C n f args m = some (v,m') → ∀ (cargs : Array Value) (ρ : PM) (w : World),VRs ρ args cargs.toList → Rel ρ m w → Glob P ρ → Calls P f cargs w (RetR ρ m w v m')
def RndOk (C : Prog) (P : Program) (n : Nat) : Prop :=
  ∀ (j i : Nat) (R : Rnd) (p : Place) (r : Loop) (full args : List AV) (m : Mem) (v : AV) (m' : Mem) (ρ : PM) (w : World) (cargs : Array Value),100000 ≤ j → Glo.rnd j R → ρ i = some p → p.map = true → p.loop = some (j,r) →
    r.params.toList = R.ps → r.assign = R.assign → r.body = R.body → R.k ≤ r.tmps.size → VRs ρ full r.tmps.toList →
    callA C n j (.ptr i 0 :: (args ++ ((R.us.map fun t => full.getD t .undef) ++ [.ptr i 0]))) m = some (v,m') → VRs ρ args cargs.toList → Rel ρ m w → Glob P ρ →
    ∃ tmps,(Instr.yield p.blk cargs).run P w = .ok (.round p.blk r.fn tmps r.assign r.body) w ∧ RoundIn Fence.wide 0 P p.blk r.fn tmps r.assign r.body w (RetR ρ m w v m')
structure FnOk (P : Program) (f : Nat) (af : AFunc) : Prop where
  out : ∃ fn,P.funcs[f]? = some fn ∧ (fn.name == "runtime.NumGoroutine") = false ∧ fn.body.isNone = false ∧ ∃ br,cFuncB P br f fn = some af
structure ProgOk (C : Prog) (P : Program) : Prop where
  fn : ∀ f af,f < 100000 → C f = some af → FnOk P f af
  rnd : ∀ j R,Glo.rnd j R ↔ rndOf P j = some R
  rounds : ∀ j R,Glo.rnd j R → (∀ af,C j = some af → ∃ a b c,cRound P j = some (a,b,c) ∧ af = a ∧ C (j + 1) = some b) ∧ (∀ af,C (j + 1000000) = some af → ∃ a b c,cRound P j = some (a,b,c) ∧ af = c)
omit [Glo] in
theorem cOp_noDefer {o : Op} {aop : AOp} (hc : cOp P o = some aop) : ∀ c,o ≠ .defer c := by
  rintro c rfl
  simp [cOp] at hc
omit [Glo] in
theorem wpIn_upon {ro : Option Nat} {o : Oper} {w : World} {next : Act → World → Prop} {Q : Exit → Act → World → Prop} (hd : ∀ c,o.op ≠ .defer c)
    (h : o.uponIn (FW ro) 0 P a next Q ((execOp a.eval o).run P w)) : o.wpIn (FW ro) 0 P a w next Q :=
  ⟨fun _ _ => trivial,by rw [Oper.semAt_eq _ _ _ hd]; exact h⟩
theorem upon_writes {ro : Option Nat} {m m' : Mem} {w : World} {o : Oper} {v : AV} {next : Act → World → Prop} {Q : Exit → Act → World → Prop} (hd : ∀ c,o.op ≠ .defer c) (h : Writes P ρ m w a.eval o v m')
    (k : ∀ u w' ρ',VR ρ' v u → Stp ρ m w ρ' m' w' → next (a.put o.dst u) w') : o.wpIn (FW ro) 0 P a w next Q := by
  obtain ⟨nx,w',ρ',hr,hv,hs⟩ := h
  refine wpIn_upon hd ?_
  rw [hr]
  rcases hv with ⟨u,rfl,hv⟩ | ⟨rfl,rfl⟩
  · exact k u w' ρ' hv hs
  · exact k undef w' ρ' (VR.undef ρ') hs
theorem load_op (hE : EnvR P ρ e a) (o : Oper) {aop : AOp} (hc : cOp P o.op = some aop) {g : Bool} {n : Nat} {x : Opd} (ha : aop = .load g n x) {m : Mem} {w : World} (hR : Rel ρ m w) {v : AV}
    (h : loadAt m g n (x.ev e) = some v) : ∃ u,(execOp a.eval o).run P w = .ok (.value u) w ∧ VR ρ v u := by
  subst ha
  unfold cOp at hc
  split at hc
  case h_8 t y hop =>
    split at hc <;> cases hc
    rename_i h1 h2 h3
    obtain ⟨u,hu,hv⟩ := load_sound hR h1 h2 (cOpd_sound hE h3) h
    exact ⟨u,by simp [execOp,hop,hu],hv⟩
  case h_22 c hop =>
    exfalso
    split at hc
    · split at hc
      · simp [Option.map_eq_some_iff] at hc
      · unfold cBuiltin at hc
        repeat' split at hc
        all_goals first | (cases hc; done) | (simp [Bool.cond_eq_ite] at hc; done) | (rename_i t u _ _ _; cases ht : Nat.beq t u <;> simp only [ht,cond_false,cond_true] at hc <;> (repeat' split at hc) <;> first | (cases hc; done) | (simp [Bool.cond_eq_ite] at hc; done))
      · cases hc
    · cases hc
  all_goals
    exfalso
    (repeat' split at hc)
    all_goals first | (cases hc; done) | (simp [Option.map_eq_some_iff,Bool.cond_eq_ite] at hc; done)
omit [Glo] in
theorem sort_cases (x : AOp) : x.sort = 0 ∨ (x.sort = 1 ∧ ∃ g n y,x = .load g n y) ∨ x.sort = 2 ∨ (x.sort = 3 ∧ ((∃ f l,x = .call f l) ∨ ∀ f l,x ≠ .call f l)) := by
  cases x <;> simp [AOp.sort]
theorem one_plain (hE : EnvR P ρ e a) (o : Oper) {aop : AOp} (hc : cOp P o.op = some aop) (hn : ∀ f l,aop ≠ .call f l) {m m' : Mem} {w : World} (hR : Rel ρ m w) {h : List Mem} {v : AV}
    (he : stepOp e m h 0 none aop = some (v,m')) : Writes P ρ m w a.eval o v m' := by
  rcases sort_cases aop with h0 | ⟨h1,g,n,y,hl⟩ | h2 | ⟨h3,_⟩
  · obtain ⟨rfl,hg⟩ := pure_op hE o hc h0 he
    obtain ⟨u,hu,hv⟩ := hg w
    exact ⟨_,w,ρ,hu,.inl ⟨u,rfl,hv⟩,Stp.refl hR⟩
  · have he' := he
    rw [hl] at he'
    simp only [stepOp] at he'
    split at he'
    · rename_i q hq
      simp only [Option.some.injEq,Prod.mk.injEq] at he'; obtain ⟨rfl,rfl⟩ := he'
      obtain ⟨u,hu,hv⟩ := load_op hE o hc hl hR hq
      exact ⟨_,w,ρ,hu,.inl ⟨u,rfl,hv⟩,Stp.refl hR⟩
    · cases he'
  · obtain ⟨cs,f,⟨cur,ty,u,hv,hf,hrun⟩,rfl,rfl⟩ := alloc_op hE o hc h2 he
    have hl := hv.length
    have hst := Stp.new hR (cs := cs) (cur := cur) (ty := ty) (w' := w.alloc (.cells cur ty)) rfl rfl rfl rfl (by simp at hl; omega) (by rw [hl,List.take_length]; exact hv)
    exact ⟨_,_,_,hrun w,.inl ⟨_,rfl,hf _ _ _ _ (upd_same _ _ _)⟩,hst⟩
  · exact eff_op hE o hc h3 hn hR he
theorem call_yield (hE : EnvR P ρ e a) (o : Oper) {f : Opd} {l : List Opd} (hc : cOp P o.op = some (.call f l)) {g : Nat} {first cap : List AV} (hf : f.ev e = .func g first cap) (hhi : ¬ g < 100000) :
    ∃ (i : Nat) (R : Rnd) (p : Place) (r : Loop) (full : List AV) (args : Array Value),100000 ≤ g ∧ Glo.rnd g R ∧ ρ i = some p ∧ p.map = true ∧ p.loop = some (g,r) ∧ r.params.toList = R.ps ∧ r.assign = R.assign ∧ r.body = R.body ∧
      R.k ≤ r.tmps.size ∧ VRs ρ full r.tmps.toList ∧ first = [.ptr i 0] ∧ cap = (R.us.map fun t => full.getD t .undef) ++ [.ptr i 0] ∧ VRs ρ (l.map (Opd.ev e)) args.toList ∧
      ∀ w,(execOp a.eval o).run P w = (Instr.yield p.blk args).run P w := by
  unfold cOp at hc
  split at hc
  case h_22 c hop =>
    split at hc
    · rename_i xs hxs
      split at hc
      · rename_i f' hcf
        simp only [Option.map_eq_some_iff,AOp.call.injEq] at hc; obtain ⟨y,hy,rfl,rfl⟩ := hc
        have hv := cOpd_sound hE hy
        rw [hf] at hv
        cases hcv : a.eval f' <;> rw [hcv] at hv <;> cases hv
        case func => omega
        rename_i i p r R full caps z1 z2 z5 z6 z7 z8 z9 z10 z3 z0 z4
        refine ⟨i,R,p,r,full,c.args.map a.eval,z0,z4,z1,z2,z3,z5,z6,z7,z8,z9,rfl,by rw [z10],VRs.map_eval hE hxs,fun w => ?_⟩
        simp [execOp,hop,resolve,hcf,hcv,Deferred.ofValue,invoke]
      · rename_i b hcb
        exfalso
        unfold cBuiltin at hc
        repeat' split at hc
        all_goals first | (cases hc; done) | (simp [Bool.cond_eq_ite] at hc; done) | (rename_i t u _ _ _; cases ht : Nat.beq t u <;> simp only [ht,cond_false,cond_true] at hc <;> (repeat' split at hc) <;> first | (cases hc; done) | (simp [Bool.cond_eq_ite] at hc; done))
      · cases hc
    · cases hc
  all_goals
    exfalso
    (repeat' split at hc)
    all_goals first | (cases hc; done) | (simp [Option.map_eq_some_iff,Bool.cond_eq_ite] at hc; done)
theorem call_wp {C : Prog} {n : Nat} {ro : Option Nat} (hC : ProgOk C P) (hcf : CallOk C P n) (hrn : RndOk C P n) (hE : EnvR P ρ e a) (o : Oper) {f : Opd} {l : List Opd} (hc : cOp P o.op = some (.call f l)) {g : Nat} {first cap : List AV} (hf : f.ev e = .func g first cap)
    {m m' : Mem} {w : World} (hR : Rel ρ m w) {v : AV} (hcall : callA C n g (first ++ (l.map (Opd.ev e) ++ cap)) m = some (v,m')) {next : Act → World → Prop} {Q : Exit → Act → World → Prop}
    (k : ∀ u w' ρ',VR ρ' v u → Stp ρ m w ρ' m' w' → next (a.put o.dst u) w') : o.wpIn (FW ro) 0 P a w next Q := by
  have hcg : ∃ af,C g = some af := by
    unfold callA at hcall
    split at hcall
    · rename_i af haf; exact ⟨af,haf⟩
    · cases hcall
  obtain ⟨af,haf⟩ := hcg
  refine wpIn_upon (cOp_noDefer hc) ?_
  by_cases hlow : g < 100000
  · obtain ⟨fn,hfn,hname,hbody,_⟩ := (hC.fn g af hlow haf).out
    obtain ⟨args,hargs,hrun⟩ := call_op hE o hc hf hlow hfn hname hbody
    rw [hrun w]
    refine ⟨fun h => (by simp [FW,Fence.wide] at h),?_⟩
    refine CallsIn.mono (callsIn_wide.2 (hcf g _ m v m' hlow hcall args ρ w hargs hR hE.glob)) ?_
    rintro E w' ⟨u,ρ',rfl,hv,hs⟩
    exact k u w' ρ' hv hs
  · obtain ⟨i,R,p,r,full,args,q0,q1,q2,q3,q4,q5,q6,q7,q8,q9,rfl,rfl,q10,hrun⟩ := call_yield hE o hc hf hlow
    obtain ⟨tmps,y1,y2⟩ := hrn g i R p r full _ m v m' ρ w args q0 q1 q2 q3 q4 q5 q6 q7 q8 q9 hcall q10 hR hE.glob
    rw [hrun w,y1]
    refine ⟨fun h => (by simp [FW,Fence.wide] at h),?_⟩
    refine RoundIn.mono y2 ?_
    rintro E w' ⟨u,ρ',rfl,hv,hs⟩
    exact k u w' ρ' hv hs
omit [Glo] in
theorem opOf_some {o : Op} {aop : AOp} (h : opOf P o = aop) (hn : aop ≠ .fail) : cOp P o = some aop := by
  unfold opOf at h
  cases hc : cOp P o with
  | none => rw [hc] at h; simp at h; exact absurd h.symm hn
  | some x => rw [hc] at h; simp at h; rw [h]
theorem lend_op (hE : EnvR P ρ e a) (o : Oper) {n b : Nat} {s x : Opd} (hc : cOp P o.op = some (.append n b s x)) {m m1 : Mem} {w : World} (hR : Rel ρ m w) {vv : AV} (hk : awayOk m (s.ev e) (x.ev e) = true)
    (h : appendAt m n b (s.ev e) (x.ev e) = some (vv,m1)) :
    ∃ u w' ρ1,(execOp a.eval o).run P w = .ok (.value u) w' ∧ VR ρ1 vv u ∧ Stp ρ m w ρ1 m1 w' ∧ Stp ρ m w ρ m w' ∧ Lent ρ m ρ1 m1 (s.ev e) vv := by
  unfold cOp at hc
  split at hc
  case h_22 c hop =>
    split at hc
    · rename_i xs hxs
      split at hc
      · simp only [Option.map_eq_some_iff] at hc; obtain ⟨y,hy,hy2⟩ := hc; cases hy2
      · rename_i bi hcb
        unfold cBuiltin at hc
        split at hc
        case h_2 t u s' x' hts =>
          cases ht : Nat.beq t u <;> simp only [ht,cond_false,cond_true] at hc
          · cases hc
          · have htu : t = u := by simpa using ht
            subst htu
            split at hc
            · rename_i el hu
              split at hc
              · rename_i n' bb z h1 h2 h3
                cases hn0 : Nat.beq n' 0 <;> simp [hn0] at hc
                obtain ⟨rfl,rfl,rfl,rfl⟩ := hc
                have hn' : n' ≠ 0 := by rintro rfl; simp at hn0
                obtain ⟨cs,cx,e1,e2,e3⟩ := cOpds_two hE hxs
                obtain ⟨q,w',ρ',hr,hv,hst,hst2,hl⟩ := append_keep (ty := o.type) hR hu h1 h2 h3 hn' e2 e3 h hk
                refine ⟨q,w',ρ',?_,hv,hst,hst2,hl⟩
                rw [exec_builtin hop hcb (Builtin.append_ c.argTypes o.type (c.args.map a.eval)) rfl,e1,list_two hts]
                simp [hr]
              · cases hc
            · cases hc
        all_goals
          exfalso
          (repeat' split at hc)
          all_goals first | (cases hc; done) | (simp only [Bool.cond_eq_ite] at hc; (repeat' split at hc) <;> cases hc)
      · cases hc
    · cases hc
  all_goals
    exfalso
    (repeat' split at hc)
    all_goals first | (cases hc; done) | (simp [Option.map_eq_some_iff,Bool.cond_eq_ite] at hc; done)
omit [Glo] in
theorem append_away {m m1 : Mem} {n b : Nat} {s x vv : AV} (hk : awayOk m s x = true) (h : appendAt m n b s x = some (vv,m1)) : m1.next = m.next + 1 ∧ ∃ bo bl bc bg,vv = .slice m.next bo bl bc bg := by
  unfold appendAt at h
  split at h
  · rename_i olds news k0 k ho hn hln hlk
    simp only [awayOk,hlk,Bool.and_eq_true,Bool.not_eq_true'] at hk
    obtain ⟨hk0,hk1⟩ := hk
    rw [hk0] at h
    simp only [cond_false] at h
    cases hb : (Nat.ble ((k0 + k) * b) roomMost && Nat.ble (k0 + k) roomMost && news.all AV.scalar)
    · rw [hb] at h; cases h
    rw [hb] at h
    simp only [cond_true] at h
    split at h
    · simp only [Option.some.injEq,Prod.mk.injEq] at h
      obtain ⟨rfl,rfl⟩ := h
      exact ⟨rfl,_,_,_,_,rfl⟩
    · rename_i i o l cap g
      simp only [sliceLen,Option.some.injEq] at hln
      subst hln
      simp only [Bool.and_eq_true,Nat.blt_eq] at hk1
      split at h
      · cases h
      · rename_i bl hbl
        rw [show Nat.ble (l + k) cap = false by rw [← Bool.not_eq_true,Nat.ble_eq]; omega] at h
        simp only [cond_false] at h
        cases hg : Nat.beq g 0
        · rw [hg] at h
          simp only [cond_false] at h
          cases hq : (bl.own && Nat.beq g n)
          · rw [hq] at h; cases h
          · rw [hq] at h
            simp only [cond_true,Option.some.injEq,Prod.mk.injEq] at h
            obtain ⟨rfl,rfl⟩ := h
            exact ⟨rfl,_,_,_,_,rfl⟩
        · rw [hg] at h
          simp only [cond_true,Option.some.injEq,Prod.mk.injEq] at h
          obtain ⟨rfl,rfl⟩ := h
          exact ⟨rfl,_,_,_,_,rfl⟩
    · cases h
  · cases h
omit [Glo] in
theorem giveBack_next {m m1 m2 m3 : Mem} {s v : AV} (h : giveBack m m1 m2 s v = some m3) : m3.next = m2.next := by
  unfold giveBack at h
  split at h
  · split at h
    · split at h
      · split at h
        · simp only [Bool.cond_eq_ite] at h
          split at h
          · simp only [Option.some.injEq] at h; subst h; rfl
          · cases h
        · cases h
      · cases h
    · simp only [Option.some.injEq] at h; subst h; rfl
  · simp only [Option.some.injEq] at h; subst h; rfl
theorem call_opZ (hE : EnvR P ρ e a) (o : Oper) {f : Opd} {t : Nat} {l : List Opd} (hc : cOp P o.op = some (.call f (.t t :: l))) {g : Nat} {first cap : List AV} (hf : f.ev e = .func g first cap) (hlow : g < 100000)
    {fn : Func} (hfn : P.funcs[g]? = some fn) (hname : (fn.name == "runtime.NumGoroutine") = false) (hbody : fn.body.isNone = false) :
    ∃ (args : Array Value) (c1 c2 : List Value),args.toList = c1 ++ (a.tmps.getD t undef :: c2) ∧ VRs ρ first c1 ∧ VRs ρ (l.map (Opd.ev e) ++ cap) c2 ∧ ∀ w,(execOp a.eval o).run P w = .ok (.enter g args) w := by
  unfold cOp at hc
  split at hc
  case h_22 c hop =>
    split at hc
    · rename_i xs hxs
      split at hc
      · rename_i f' hcf
        simp only [Option.map_eq_some_iff,AOp.call.injEq] at hc; obtain ⟨y,hy,rfl,rfl⟩ := hc
        have hv := cOpd_sound hE hy
        rw [hf] at hv
        cases hcv : a.eval f' <;> rw [hcv] at hv <;> cases hv
        case yield => omega
        rename_i vs us _ h1 h2
        -- the first argument
        cases hl : c.args.toList with
        | nil => rw [hl] at hxs; simp [cOpds] at hxs
        | cons x0 r0 =>
          rw [hl] at hxs
          simp only [cOpds] at hxs
          split at hxs
          · rename_i x' hx'
            split at hxs
            · rename_i s' hs'
              simp only [Option.some.injEq,List.cons.injEq] at hxs
              obtain ⟨rfl,rfl⟩ := hxs
              have hx0 : x0 = .tmp t := by
                unfold cOpd at hx'
                split at hx'
                · simp only [Option.some.injEq,Opd.t.injEq] at hx'; rw [hx']
                · simp [Option.map_eq_some_iff] at hx'
                · simp [Bool.cond_eq_ite] at hx'
                · simp [Bool.cond_eq_ite] at hx'
              subst hx0
              have hr := cOpds_sound hE hs'
              refine ⟨vs ++ c.args.map a.eval ++ us,vs.toList,r0.map a.eval ++ us.toList,?_,h1,hr.append h2,fun w => ?_⟩
              · simp only [Array.toList_append,Array.toList_map,hl,List.map_cons,List.append_assoc,List.cons_append]
                rfl
              · have hname' : ¬ fn.name = "runtime.NumGoroutine" := by simpa using hname
                have hbody' : ¬ fn.body = none := fun e0 => by rw [e0] at hbody; cases hbody
                simp [execOp,hop,resolve,hcf,hcv,Deferred.ofValue,invoke,callFunc,run_program,hfn,hname',hbody']
            · cases hxs
          · cases hxs
      · rename_i b hcb
        exfalso
        unfold cBuiltin at hc
        repeat' split at hc
        all_goals first | (cases hc; done) | (simp [Bool.cond_eq_ite] at hc; done) | (rename_i t u _ _ _; cases ht : Nat.beq t u <;> simp only [ht,cond_false,cond_true] at hc <;> (repeat' split at hc) <;> first | (cases hc; done) | (simp [Bool.cond_eq_ite] at hc; done))
      · cases hc
    · cases hc
  all_goals
    exfalso
    (repeat' split at hc)
    all_goals first | (cases hc; done) | (simp [Option.map_eq_some_iff,Bool.cond_eq_ite] at hc; done)
omit [Glo] in
theorem cOp_noZ {o : Op} {aop : AOp} (hc : cOp P o = some aop) : (∀ f l,aop ≠ .callZ f l) ∧ ∀ n b s x,aop ≠ .appZ n b s x := by
  unfold cOp at hc
  split at hc
  case h_22 c =>
    split at hc
    · split at hc
      · simp only [Option.map_eq_some_iff] at hc; obtain ⟨y,hy,rfl⟩ := hc; simp
      · unfold cBuiltin at hc
        repeat' split at hc
        all_goals first | (cases hc; simp; done) | (cases hc; done) | (simp only [Bool.cond_eq_ite] at hc; (repeat' split at hc) <;> first | (cases hc; simp; done) | (cases hc; done))
      · cases hc
    · cases hc
  all_goals
    (repeat' split at hc)
    all_goals first | (cases hc; simp; done) | (cases hc; done) | (simp only [Option.map_eq_some_iff] at hc; obtain ⟨y,hy,rfl⟩ := hc; simp; done) | (simp only [Bool.cond_eq_ite] at hc; (repeat' split at hc) <;> first | (cases hc; simp; done) | (cases hc; done))
omit [Glo] in
theorem opOf_noZ (o : Op) : (∀ f l,opOf P o ≠ .callZ f l) ∧ ∀ n b s x,opOf P o ≠ .appZ n b s x := by
  unfold opOf
  cases hc : cOp P o with
  | none => simp
  | some x => exact cOp_noZ hc
theorem plain_sound {C : Prog} {n : Nat} {ro : Option Nat} (hC : ProgOk C P) (hcf : CallOk C P n) (hrn : RndOk C P n) {ops : Array Oper} {Q : Exit → Act → World → Prop} {base k : Nat} {e' : Env} {m0 m' : Mem} {ρ0 : PM} {w0 : World} {sz : Nat} {ds : List Deferred}
    (hQ : ∀ a' w' ρ',EnvR P ρ' e' a' → Stp ρ0 m0 w0 ρ' m' w' → a'.tmps.size = sz → a'.defers = ds → Q .normal a' w') :
    ∀ (l : List Oper) (i : Nat) (aops : List AOper) (e : Env) (m : Mem) (h : List Mem) (ρ : PM) (w : World) (a : Act),ops.toList.drop i = l → cPlain P ops l = some aops → dstOk k l = true →
      runOps (callA C n) base aops e m h = some (e',m') → EnvR P ρ e a → Rel ρ m w → Stp ρ0 m0 w0 ρ m w → k ≤ a.tmps.size → a.tmps.size = sz → a.defers = ds → wpOpsIn (FW ro) 0 P ops Q (List.range' i l.length) a w
  | [],i,aops,e,m,h,ρ,w,a,hd,hc,hk,hr,hE,hR,hS,hsz,hsz',hds => by
    simp only [cPlain,Option.some.injEq] at hc; subst hc
    simp only [runOps,Option.some.injEq,Prod.mk.injEq] at hr
    obtain ⟨rfl,rfl⟩ := hr
    exact hQ a w ρ hE hS hsz' hds
  | o :: l, i,aops,e,m,h,ρ,w,a,hd,hc,hk,hr,hE,hR,hS,hsz,hsz',hds => by
    have hoi : ops[i]? = some o := by
      have := congrArg (fun l : List Oper => l[0]?) hd
      simpa using this
    have hd' : ops.toList.drop (i + 1) = l := by
      have := congrArg (List.drop 1) hd
      simpa [List.drop_drop] using this
    simp only [cPlain] at hc
    split at hc
    · rename_i g s hg hs
      cases hc
      simp only [dstOk,List.all_cons,Bool.and_eq_true] at hk
      have hdst : ∀ t,o.dst = some t → t < a.tmps.size := fun t ht => by
        have := hk.1
        rw [ht] at this
        have h2 : t < k := by simpa using this
        exact Nat.lt_of_lt_of_le h2 hsz
      have go : ∀ (e1 : Env) (m1 : Mem) (h1 : List Mem) (u : Value) (v : AV) (w1 : World) (ρ1 : PM),runOps (callA C n) base s (putD e o.dst v) m1 h1 = some (e',m') → VR ρ1 v u → Stp ρ m w ρ1 m1 w1 →
          wpOpsIn (FW ro) 0 P ops Q (List.range' (i + 1) l.length) (a.put o.dst u) w1 := fun e1 m1 h1 u v w1 ρ1 hr1 hv hs1 =>
        plain_sound hC hcf hrn hQ l (i + 1) s _ m1 h1 ρ1 w1 (a.put o.dst u) hd' hs hk.2 hr1 ((hE.mono (hs1.le hR)).put hv o.dst hdst) hs1.rel (hS.trans hs1) (by rw [put_size]; exact hsz) (by rw [put_size]; exact hsz') (by rw [put_defers]; exact hds)
      simp only [List.length_cons,List.range'_succ,wpOpsIn,hoi]
      have hw := wanted_sound hE (o := o) hg
      simp only [runOps] at hr
      cases hwt : wanted e g
      · rw [hwt] at hw hr
        simp only [cond_false] at hr
        rw [if_neg (by simp [hw])]
        refine ⟨fun _ _ => trivial,?_⟩
        exact go e m _ undef .undef w ρ hr (VR.undef ρ) (Stp.refl hR)
      · rw [hwt] at hw hr
        simp only [cond_true] at hr
        rw [if_pos hw]
        split at hr
        · rename_i f args hop
          split at hr
          · rename_i g' first cap hf
            split at hr
            · rename_i v m1 hcall
              exact call_wp hC hcf hrn hE o (opOf_some hop (by simp)) hf hR hcall fun u w' ρ' hv hs' => go e m1 _ u v w' ρ' hr hv hs'
            · cases hr
          · cases hr
        · rename_i f args hop
          exact absurd hop ((opOf_noZ _).1 _ _)
        · rename_i hnc hncz
          split at hr
          · rename_i v m1 hst
            have hnf : opOf P o.op ≠ .fail := by
              intro hf
              rw [hf] at hst
              simp [stepOp] at hst
            refine upon_writes (cOp_noDefer (opOf_some (P := P) (o := o.op) rfl hnf)) (one_plain hE o (opOf_some rfl hnf) (fun f l hfl => hnc f l hfl) hR hst) fun u w' ρ' hv hs' => go e m1 _ u v w' ρ' hr hv hs'
          · cases hr
    · cases hc
inductive ExitR : AExit → Exit → Prop
  | normal : ExitR .normal .normal
  | exit (id : Nat) : ExitR (.exit id) (.exit id)
  | ret : ExitR .ret .ret
def RegOk (P : Program) (C : Prog) (n : Nat) : Prop :=
  ∀ br q k id ops draw r aops,cCode P br q k (.region id ops draw) = some (.region r aops) → ∀ e m e' m',runOps (callA C n) m.next aops e (m.reserve r) [m.reserve r] = some (e',m') →
    ∀ ro ρ w a,Rel ρ m w → EnvR P ρ e a → k ≤ a.tmps.size → ∀ Q : Exit → Act → World → Prop,
      (∀ a' w' ρ',EnvR P ρ' e' a' → Stp ρ m w ρ' m' w' → a'.tmps.size = a.tmps.size → a'.defers = a.defers → Q .normal a' w') → (Code.region id ops draw).wpIn (FW ro) 0 P Q a w
def Mk (B : Nat) (ρ : PM) (m : Mem) (w : World) (ds : List Deferred) : Prop :=
  ∃ rs : List Nat,ds = rs.map (fun r => ({ target := .collected r,args := #[] } : Deferred)) ∧ rs.Nodup ∧ ∀ r ∈ rs,B ≤ r ∧ w.heap[r]? = some (.deferred (some [])) ∧ ¬ UseAt ρ m r
omit [Glo] in
theorem Mk.nil (B : Nat) (ρ : PM) (m : Mem) (w : World) : Mk B ρ m w [] := ⟨[],rfl,.nil,fun _ h => by simp at h⟩
theorem Mk.stp {B : Nat} {ρ ρ' : PM} {m m' : Mem} {w w' : World} {ds : List Deferred} (h : Mk B ρ m w ds) (s : Stp ρ m w ρ' m' w') : Mk B ρ' m' w' ds := by
  obtain ⟨rs,h1,h2,h3⟩ := h
  refine ⟨rs,h1,h2,fun r hr => ?_⟩
  obtain ⟨g1,g2,g3⟩ := h3 r hr
  have hlt := (Array.getElem?_eq_some_iff.1 g2).1
  exact ⟨g1,by rw [s.frame r hlt fun c => g3 c.use]; exact g2,fun c => (s.use r c).elim g3 fun c => by omega⟩
theorem Mk.push {B : Nat} {ρ : PM} {m : Mem} {w : World} {ds : List Deferred} (h : Mk B ρ m w ds) (hR : Rel ρ m w) (hB : B ≤ w.heap.size) (hw : w.heap[w.heap.size]? = none := by simp) {w' : World}
    (hw' : w'.heap = w.heap.push (.deferred (some []))) : Mk B ρ m w' ({ target := .collected w.heap.size,args := #[] } :: ds) := by
  obtain ⟨rs,h1,h2,h3⟩ := h
  have hlt : ∀ r ∈ rs,r < w.heap.size := fun r hr => (Array.getElem?_eq_some_iff.1 (h3 r hr).2.1).1
  refine ⟨w.heap.size :: rs,by rw [h1]; rfl,List.nodup_cons.2 ⟨fun c => Nat.lt_irrefl _ (hlt _ c),h2⟩,fun r hr => ?_⟩
  rcases List.mem_cons.1 hr with rfl | hr
  · exact ⟨hB,by rw [hw']; simp,fun c => Nat.lt_irrefl _ (c.lt hR)⟩
  · obtain ⟨g1,g2,g3⟩ := h3 r hr
    refine ⟨g1,?_,g3⟩
    rw [hw',Array.getElem?_push,if_neg (by have := hlt r hr; omega)]
    exact g2
theorem Stp.other {ρ : PM} {m : Mem} {w : World} (h : Rel ρ m w) (ob : Obj) : Stp ρ m w ρ m (w.alloc ob) := by
  have hold : ∀ B,B < w.heap.size → (w.alloc ob).heap[B]? = w.heap[B]? := fun B hB => by
    show (w.heap.push ob)[B]? = _
    rw [Array.getElem?_push,if_neg (by omega)]
  refine ⟨fun _ _ => rfl,⟨h.fresh,fun i b hb => ?_,h.apart⟩,Nat.le_refl _,by simp,rfl,rfl,rfl,fun _ h => .inl h,fun _ h => .inl h,fun B hB _ => hold B hB,fun _ _ h => h⟩
  obtain ⟨p,hp,hr⟩ := h.blk i b hb
  exact ⟨p,hp,hr.kept (PLe.refl _) fun hu => hold _ (hr.lt hu)⟩
def LoopsOk (P : Program) (q k : Nat) (c : Code) : Prop :=
  q = 0 ∨ ∀ i ps a b,(loopsOf c)[i]? = some (ps,a,b) → ∀ ca cb,cCode P false 0 k a = some ca → cCode P false 0 k b = some cb → Glo.rnd (q + 2 * i) ⟨k,ps,usOf ps ca cb,a,b⟩ ∧ 100000 ≤ q + 2 * i
omit [Glo] in
theorem loopsOf_length : ∀ c : Code,(loopsOf c).length = loopsN c
  | .seq a b => by simp [loopsOf,loopsN,loopsOf_length a,loopsOf_length b]
  | .cond _ a b => by simp [loopsOf,loopsN,loopsOf_length a,loopsOf_length b]
  | .block _ b => by simp [loopsOf,loopsN,loopsOf_length b]
  | .loop b => by simp [loopsOf,loopsN,loopsOf_length b]
  | .rangeFunc .. => rfl
  | .skip => rfl
  | .region .. => rfl
  | .exit _ => rfl
  | .ret => rfl
  | .scope _ => rfl
  | .label _ => rfl
  | .goto _ => rfl
  | .refuse _ => rfl
theorem LoopsOk.two {q k : Nat} {a b c : Code} (hc : loopsOf c = loopsOf a ++ loopsOf b) (h : LoopsOk P q k c) : LoopsOk P q k a ∧ LoopsOk P (cond (Nat.beq q 0) 0 (q + 2 * loopsN a)) k b := by
  rcases h with rfl | h
  · exact ⟨.inl rfl,.inl rfl⟩
  · rw [hc] at h
    refine ⟨.inr fun i ps x y hi => h i ps x y (by rw [List.getElem?_append_left (List.getElem?_eq_some_iff.1 hi).1]; exact hi),?_⟩
    cases hq : Nat.beq q 0
    · refine .inr fun i ps x y hi => ?_
      have := h ((loopsOf a).length + i) ps x y (by rw [List.getElem?_append_right (by omega),show (loopsOf a).length + i - (loopsOf a).length = i by omega]; exact hi)
      rw [loopsOf_length,show q + 2 * (loopsN a + i) = q + 2 * loopsN a + 2 * i by omega] at this
      exact this
    · exact .inl rfl
omit [Glo] in
theorem next_zero {q n : Nat} (h : cond (Nat.beq q 0) 0 (q + 2 * n) ≠ 0) : q ≠ 0 := by
  rintro rfl
  exact h rfl
end Go.Am
