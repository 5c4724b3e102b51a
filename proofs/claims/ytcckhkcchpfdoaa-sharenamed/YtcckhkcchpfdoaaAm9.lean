/-
  THE ABSTRACT MACHINE, 9: a region in the order of the text; code; calls: what the abstract machine's run gives, the model's run gives too (but for regions that draw their order: the next text).
-/
import Derived.Test.YtcckhkcchpfdoaaAm8
import Derived.LoopN
set_option linter.unusedVariables false
set_option linter.unusedSimpArgs false
namespace Go.Am
variable {P : Program} {ρ : PM} {e : Env} {a : Act}
def Glob (P : Program) (ρ : PM) : Prop := ∀ g,g < P.globals.size → ∃ p,ρ g = some p ∧ p.blk = g ∧ p.off = 0 ∧ p.map = false
def RetR (ρ : PM) (m : Mem) (w : World) (v : AV) (m' : Mem) : Ending → World → Prop :=
  fun E w' => ∃ u ρ',E = .returned u ∧ VR ρ' v u ∧ Stp ρ m w ρ' m' w'
def CallOk (C : Prog) (P : Program) (n : Nat) : Prop :=
  ∀ f args m v m',callA C n f args m = some (v,m') → ∀ (cargs : Array Value) (ρ : PM) (w : World),VRs ρ args cargs.toList → Rel ρ m w → Glob P ρ → Calls P f cargs w (RetR ρ m w v m')
structure FnOk (P : Program) (f : Nat) (af : AFunc) : Prop where
  out : ∃ fn,P.funcs[f]? = some fn ∧ (fn.name == "runtime.NumGoroutine") = false ∧ fn.body.isNone = false ∧ ∃ br,cFuncB P br fn = some af
def ProgOk (C : Prog) (P : Program) : Prop := ∀ f af,C f = some af → FnOk P f af
theorem upon_writes {m m' : Mem} {w : World} {o : Oper} {v : AV} {next : Act → World → Prop} {Q : Exit → Act → World → Prop} (h : Writes P ρ m w a.eval o v m')
    (k : ∀ u w' ρ',VR ρ' v u → Stp ρ m w ρ' m' w' → next (a.put o.dst u) w') : o.wp P a w next Q := by
  obtain ⟨nx,w',ρ',hr,hv,hs⟩ := h
  unfold Oper.wp
  rw [hr]
  rcases hv with ⟨u,rfl,hv⟩ | ⟨rfl,rfl⟩
  · exact k u w' ρ' hv hs
  · exact k undef w' ρ' (VR.undef ρ') hs
theorem load_op (hE : EnvR P ρ e a) (o : Oper) {aop : AOp} (hc : cOp P o.op = some aop) {g : Bool} {n : Nat} {x : Opd} (ha : aop = .load g n x) {m : Mem} {w : World} (hR : Rel ρ m w) {v : AV}
    (h : loadAt m g n (x.ev e) = some v) : ∃ u,(execOp a.eval o).run P w = .ok (.value u) w ∧ VR ρ v u := by
  subst ha
  unfold cOp at hc
  split at hc
  case h_8 t y hop =>
    split at hc <;> cases hc
    rename_i h1 h2 h3
    obtain ⟨u,hu,hv⟩ := load_sound hR h1 h2 (cOpd_sound hE h3) h
    exact ⟨u,by simp [execOp,hop,hu],hv⟩
  case h_22 c hop =>
    exfalso
    split at hc
    · split at hc
      · simp [Option.map_eq_some_iff] at hc
      · unfold cBuiltin at hc
        repeat' split at hc
        all_goals first | (cases hc; done) | (simp [Bool.cond_eq_ite] at hc; done) | (rename_i t u _ _ _; cases ht : Nat.beq t u <;> simp only [ht,cond_false,cond_true] at hc <;> (repeat' split at hc) <;> first | (cases hc; done) | (simp [Bool.cond_eq_ite] at hc; done))
      · cases hc
    · cases hc
  all_goals
    exfalso
    (repeat' split at hc)
    all_goals first | (cases hc; done) | (simp [Option.map_eq_some_iff,Bool.cond_eq_ite] at hc; done)
theorem sort_cases (x : AOp) : x.sort = 0 ∨ (x.sort = 1 ∧ ∃ g n y,x = .load g n y) ∨ x.sort = 2 ∨ (x.sort = 3 ∧ ((∃ f l,x = .call f l) ∨ ∀ f l,x ≠ .call f l)) := by
  cases x <;> simp [AOp.sort]
theorem one_plain (hE : EnvR P ρ e a) (o : Oper) {aop : AOp} (hc : cOp P o.op = some aop) (hn : ∀ f l,aop ≠ .call f l) {m m' : Mem} {w : World} (hR : Rel ρ m w) {h : List Mem} {v : AV}
    (he : stepOp e m h 0 none aop = some (v,m')) : Writes P ρ m w a.eval o v m' := by
  rcases sort_cases aop with h0 | ⟨h1,g,n,y,hl⟩ | h2 | ⟨h3,_⟩
  · obtain ⟨rfl,hg⟩ := pure_op hE o hc h0 he
    obtain ⟨u,hu,hv⟩ := hg w
    exact ⟨_,w,ρ,hu,.inl ⟨u,rfl,hv⟩,Stp.refl hR⟩
  · have he' := he
    rw [hl] at he'
    simp only [stepOp] at he'
    split at he'
    · rename_i q hq
      simp only [Option.some.injEq,Prod.mk.injEq] at he'; obtain ⟨rfl,rfl⟩ := he'
      obtain ⟨u,hu,hv⟩ := load_op hE o hc hl hR hq
      exact ⟨_,w,ρ,hu,.inl ⟨u,rfl,hv⟩,Stp.refl hR⟩
    · cases he'
  · obtain ⟨cs,f,⟨cur,ty,u,hv,hf,hrun⟩,rfl,rfl⟩ := alloc_op hE o hc h2 he
    have hl := hv.length
    have hst := Stp.new hR (cs := cs) (cur := cur) (ty := ty) (w' := w.alloc (.cells cur ty)) rfl rfl rfl rfl (by simp at hl; omega) (by rw [hl,List.take_length]; exact hv)
    exact ⟨_,_,_,hrun w,.inl ⟨_,rfl,hf _ _ _ _ (upd_same _ _ _)⟩,hst⟩
  · exact eff_op hE o hc h3 hn hR he
theorem call_wp {C : Prog} {n : Nat} (hC : ProgOk C P) (hcf : CallOk C P n) (hE : EnvR P ρ e a) (o : Oper) {f : Opd} {l : List Opd} (hc : cOp P o.op = some (.call f l)) {g : Nat} {first cap : List AV} (hf : f.ev e = .func g first cap)
    {m m' : Mem} {w : World} (hR : Rel ρ m w) {v : AV} (hcall : callA C n g (first ++ (l.map (Opd.ev e) ++ cap)) m = some (v,m')) {next : Act → World → Prop} {Q : Exit → Act → World → Prop}
    (k : ∀ u w' ρ',VR ρ' v u → Stp ρ m w ρ' m' w' → next (a.put o.dst u) w') : o.wp P a w next Q := by
  have hcg : ∃ af,C g = some af := by
    unfold callA at hcall
    split at hcall
    · rename_i af haf; exact ⟨af,haf⟩
    · cases hcall
  obtain ⟨af,haf⟩ := hcg
  obtain ⟨fn,hfn,hname,hbody,_⟩ := (hC g af haf).out
  obtain ⟨args,hargs,hrun⟩ := call_op hE o hc hf hfn hname hbody
  unfold Oper.wp
  rw [hrun w]
  refine (hcf g _ m v m' hcall args ρ w hargs hR hE.glob).mono ?_
  rintro E w' ⟨u,ρ',rfl,hv,hs⟩
  exact k u w' ρ' hv hs
theorem opOf_some {o : Op} {aop : AOp} (h : opOf P o = aop) (hn : aop ≠ .fail) : cOp P o = some aop := by
  unfold opOf at h
  cases hc : cOp P o with
  | none => rw [hc] at h; simp at h; exact absurd h.symm hn
  | some x => rw [hc] at h; simp at h; rw [h]
theorem lend_op (hE : EnvR P ρ e a) (o : Oper) {n b : Nat} {s x : Opd} (hc : cOp P o.op = some (.append n b s x)) {m m1 : Mem} {w : World} (hR : Rel ρ m w) {vv : AV} (hk : awayOk m (s.ev e) (x.ev e) = true)
    (h : appendAt m n b (s.ev e) (x.ev e) = some (vv,m1)) :
    ∃ u w' ρ1,(execOp a.eval o).run P w = .ok (.value u) w' ∧ VR ρ1 vv u ∧ Stp ρ m w ρ1 m1 w' ∧ Stp ρ m w ρ m w' ∧ Lent ρ m ρ1 m1 (s.ev e) vv := by
  unfold cOp at hc
  split at hc
  case h_22 c hop =>
    split at hc
    · rename_i xs hxs
      split at hc
      · simp only [Option.map_eq_some_iff] at hc; obtain ⟨y,hy,hy2⟩ := hc; cases hy2
      · rename_i bi hcb
        unfold cBuiltin at hc
        split at hc
        case h_2 t u s' x' hts =>
          cases ht : Nat.beq t u <;> simp only [ht,cond_false,cond_true] at hc
          · cases hc
          · have htu : t = u := by simpa using ht
            subst htu
            split at hc
            · rename_i el hu
              split at hc
              · rename_i n' bb z h1 h2 h3
                cases hn0 : Nat.beq n' 0 <;> simp [hn0] at hc
                obtain ⟨rfl,rfl,rfl,rfl⟩ := hc
                have hn' : n' ≠ 0 := by rintro rfl; simp at hn0
                obtain ⟨cs,cx,e1,e2,e3⟩ := cOpds_two hE hxs
                obtain ⟨q,w',ρ',hr,hv,hst,hst2,hl⟩ := append_keep (ty := o.type) hR hu h1 h2 h3 hn' e2 e3 h hk
                refine ⟨q,w',ρ',?_,hv,hst,hst2,hl⟩
                rw [exec_builtin hop hcb (Builtin.append_ c.argTypes o.type (c.args.map a.eval)) rfl,e1,list_two hts]
                simp [hr]
              · cases hc
            · cases hc
        all_goals
          exfalso
          (repeat' split at hc)
          all_goals first | (cases hc; done) | (simp only [Bool.cond_eq_ite] at hc; (repeat' split at hc) <;> cases hc)
      · cases hc
    · cases hc
  all_goals
    exfalso
    (repeat' split at hc)
    all_goals first | (cases hc; done) | (simp [Option.map_eq_some_iff,Bool.cond_eq_ite] at hc; done)
theorem append_away {m m1 : Mem} {n b : Nat} {s x vv : AV} (hk : awayOk m s x = true) (h : appendAt m n b s x = some (vv,m1)) : m1.next = m.next + 1 ∧ ∃ bo bl bc bg,vv = .slice m.next bo bl bc bg := by
  unfold appendAt at h
  split at h
  · rename_i olds news k0 k ho hn hln hlk
    simp only [awayOk,hlk,Bool.and_eq_true,Bool.not_eq_true'] at hk
    obtain ⟨hk0,hk1⟩ := hk
    rw [hk0] at h
    simp only [cond_false] at h
    cases hb : (Nat.ble ((k0 + k) * b) roomMost && Nat.ble (k0 + k) roomMost && news.all AV.scalar)
    · rw [hb] at h; cases h
    rw [hb] at h
    simp only [cond_true] at h
    split at h
    · simp only [Option.some.injEq,Prod.mk.injEq] at h
      obtain ⟨rfl,rfl⟩ := h
      exact ⟨rfl,_,_,_,_,rfl⟩
    · rename_i i o l cap g
      simp only [sliceLen,Option.some.injEq] at hln
      subst hln
      simp only [Bool.and_eq_true,Nat.blt_eq] at hk1
      split at h
      · cases h
      · rename_i bl hbl
        rw [show Nat.ble (l + k) cap = false by rw [← Bool.not_eq_true,Nat.ble_eq]; omega] at h
        simp only [cond_false] at h
        cases hg : Nat.beq g 0
        · rw [hg] at h
          simp only [cond_false] at h
          cases hq : (bl.own && Nat.beq g n)
          · rw [hq] at h; cases h
          · rw [hq] at h
            simp only [cond_true,Option.some.injEq,Prod.mk.injEq] at h
            obtain ⟨rfl,rfl⟩ := h
            exact ⟨rfl,_,_,_,_,rfl⟩
        · rw [hg] at h
          simp only [cond_true,Option.some.injEq,Prod.mk.injEq] at h
          obtain ⟨rfl,rfl⟩ := h
          exact ⟨rfl,_,_,_,_,rfl⟩
    · cases h
  · cases h
theorem giveBack_next {m m1 m2 m3 : Mem} {s v : AV} (h : giveBack m m1 m2 s v = some m3) : m3.next = m2.next := by
  unfold giveBack at h
  split at h
  · split at h
    · split at h
      · split at h
        · simp only [Bool.cond_eq_ite] at h
          split at h
          · simp only [Option.some.injEq] at h; subst h; rfl
          · cases h
        · cases h
      · cases h
    · simp only [Option.some.injEq] at h; subst h; rfl
  · simp only [Option.some.injEq] at h; subst h; rfl
theorem call_opZ (hE : EnvR P ρ e a) (o : Oper) {f : Opd} {t : Nat} {l : List Opd} (hc : cOp P o.op = some (.call f (.t t :: l))) {g : Nat} {first cap : List AV} (hf : f.ev e = .func g first cap)
    {fn : Func} (hfn : P.funcs[g]? = some fn) (hname : (fn.name == "runtime.NumGoroutine") = false) (hbody : fn.body.isNone = false) :
    ∃ (args : Array Value) (c1 c2 : List Value),args.toList = c1 ++ (a.tmps.getD t undef :: c2) ∧ VRs ρ first c1 ∧ VRs ρ (l.map (Opd.ev e) ++ cap) c2 ∧ ∀ w,(execOp a.eval o).run P w = .ok (.enter g args) w := by
  unfold cOp at hc
  split at hc
  case h_22 c hop =>
    split at hc
    · rename_i xs hxs
      split at hc
      · rename_i f' hcf
        simp only [Option.map_eq_some_iff,AOp.call.injEq] at hc; obtain ⟨y,hy,rfl,rfl⟩ := hc
        have hv := cOpd_sound hE hy
        rw [hf] at hv
        cases hcv : a.eval f' <;> rw [hcv] at hv <;> cases hv
        rename_i vs us h1 h2
        -- the first argument
        cases hl : c.args.toList with
        | nil => rw [hl] at hxs; simp [cOpds] at hxs
        | cons x0 r0 =>
          rw [hl] at hxs
          simp only [cOpds] at hxs
          split at hxs
          · rename_i x' hx'
            split at hxs
            · rename_i s' hs'
              simp only [Option.some.injEq,List.cons.injEq] at hxs
              obtain ⟨rfl,rfl⟩ := hxs
              have hx0 : x0 = .tmp t := by
                unfold cOpd at hx'
                split at hx'
                · simp only [Option.some.injEq,Opd.t.injEq] at hx'; rw [hx']
                · simp [Option.map_eq_some_iff] at hx'
                · cases hx'
                · simp [Bool.cond_eq_ite] at hx'
              subst hx0
              have hr := cOpds_sound hE hs'
              refine ⟨vs ++ c.args.map a.eval ++ us,vs.toList,r0.map a.eval ++ us.toList,?_,h1,hr.append h2,fun w => ?_⟩
              · simp only [Array.toList_append,Array.toList_map,hl,List.map_cons,List.append_assoc,List.cons_append]
                rfl
              · have hname' : ¬ fn.name = "runtime.NumGoroutine" := by simpa using hname
                have hbody' : ¬ fn.body = none := fun e0 => by rw [e0] at hbody; cases hbody
                simp [execOp,hop,resolve,hcf,hcv,Deferred.ofValue,invoke,callFunc,run_program,hfn,hname',hbody']
            · cases hxs
          · cases hxs
      · rename_i b hcb
        exfalso
        unfold cBuiltin at hc
        repeat' split at hc
        all_goals first | (cases hc; done) | (simp [Bool.cond_eq_ite] at hc; done) | (rename_i t u _ _ _; cases ht : Nat.beq t u <;> simp only [ht,cond_false,cond_true] at hc <;> (repeat' split at hc) <;> first | (cases hc; done) | (simp [Bool.cond_eq_ite] at hc; done))
      · cases hc
    · cases hc
  all_goals
    exfalso
    (repeat' split at hc)
    all_goals first | (cases hc; done) | (simp [Option.map_eq_some_iff,Bool.cond_eq_ite] at hc; done)
theorem cOp_noZ {o : Op} {aop : AOp} (hc : cOp P o = some aop) : (∀ f l,aop ≠ .callZ f l) ∧ ∀ n b s x,aop ≠ .appZ n b s x := by
  unfold cOp at hc
  split at hc
  case h_22 c =>
    split at hc
    · split at hc
      · simp only [Option.map_eq_some_iff] at hc; obtain ⟨y,hy,rfl⟩ := hc; simp
      · unfold cBuiltin at hc
        repeat' split at hc
        all_goals first | (cases hc; simp; done) | (cases hc; done) | (simp only [Bool.cond_eq_ite] at hc; (repeat' split at hc) <;> first | (cases hc; simp; done) | (cases hc; done))
      · cases hc
    · cases hc
  all_goals
    (repeat' split at hc)
    all_goals first | (cases hc; simp; done) | (cases hc; done) | (simp only [Option.map_eq_some_iff] at hc; obtain ⟨y,hy,rfl⟩ := hc; simp; done) | (simp only [Bool.cond_eq_ite] at hc; (repeat' split at hc) <;> first | (cases hc; simp; done) | (cases hc; done))
theorem opOf_noZ (o : Op) : (∀ f l,opOf P o ≠ .callZ f l) ∧ ∀ n b s x,opOf P o ≠ .appZ n b s x := by
  unfold opOf
  cases hc : cOp P o with
  | none => simp
  | some x => exact cOp_noZ hc
theorem plain_sound {C : Prog} {n : Nat} (hC : ProgOk C P) (hcf : CallOk C P n) {ops : Array Oper} {Q : Exit → Act → World → Prop} {base k : Nat} {e' : Env} {m0 m' : Mem} {ρ0 : PM} {w0 : World} {sz : Nat} {ds : List Deferred}
    (hQ : ∀ a' w' ρ',EnvR P ρ' e' a' → Stp ρ0 m0 w0 ρ' m' w' → a'.tmps.size = sz → a'.defers = ds → Q .normal a' w') :
    ∀ (l : List Oper) (i : Nat) (aops : List AOper) (e : Env) (m : Mem) (h : List Mem) (ρ : PM) (w : World) (a : Act),ops.toList.drop i = l → cPlain P ops l = some aops → dstOk k l = true →
      runOps (callA C n) base aops e m h = some (e',m') → EnvR P ρ e a → Rel ρ m w → Stp ρ0 m0 w0 ρ m w → k ≤ a.tmps.size → a.tmps.size = sz → a.defers = ds → wpOps P ops Q (List.range' i l.length) a w
  | [],i,aops,e,m,h,ρ,w,a,hd,hc,hk,hr,hE,hR,hS,hsz,hsz',hds => by
    simp only [cPlain,Option.some.injEq] at hc; subst hc
    simp only [runOps,Option.some.injEq,Prod.mk.injEq] at hr
    obtain ⟨rfl,rfl⟩ := hr
    exact hQ a w ρ hE hS hsz' hds
  | o :: l, i,aops,e,m,h,ρ,w,a,hd,hc,hk,hr,hE,hR,hS,hsz,hsz',hds => by
    have hoi : ops[i]? = some o := by
      have := congrArg (fun l : List Oper => l[0]?) hd
      simpa using this
    have hd' : ops.toList.drop (i + 1) = l := by
      have := congrArg (List.drop 1) hd
      simpa [List.drop_drop] using this
    simp only [cPlain] at hc
    split at hc
    · rename_i g s hg hs
      cases hc
      simp only [dstOk,List.all_cons,Bool.and_eq_true] at hk
      have hdst : ∀ t,o.dst = some t → t < a.tmps.size := fun t ht => by
        have := hk.1
        rw [ht] at this
        have h2 : t < k := by simpa using this
        exact Nat.lt_of_lt_of_le h2 hsz
      have go : ∀ (e1 : Env) (m1 : Mem) (h1 : List Mem) (u : Value) (v : AV) (w1 : World) (ρ1 : PM),runOps (callA C n) base s (putD e o.dst v) m1 h1 = some (e',m') → VR ρ1 v u → Stp ρ m w ρ1 m1 w1 →
          wpOps P ops Q (List.range' (i + 1) l.length) (a.put o.dst u) w1 := fun e1 m1 h1 u v w1 ρ1 hr1 hv hs1 =>
        plain_sound hC hcf hQ l (i + 1) s _ m1 h1 ρ1 w1 (a.put o.dst u) hd' hs hk.2 hr1 ((hE.mono (hs1.le hR)).put hv o.dst hdst) hs1.rel (hS.trans hs1) (by rw [put_size]; exact hsz) (by rw [put_size]; exact hsz') (by rw [put_defers]; exact hds)
      simp only [List.length_cons,List.range'_succ,wpOps,hoi]
      have hw := wanted_sound hE (o := o) hg
      simp only [runOps] at hr
      cases hwt : wanted e g
      · rw [hwt] at hw hr
        simp only [cond_false] at hr
        rw [if_neg (by simp [hw])]
        exact go e m _ undef .undef w ρ hr (VR.undef ρ) (Stp.refl hR)
      · rw [hwt] at hw hr
        simp only [cond_true] at hr
        rw [if_pos hw]
        refine .inl ?_
        split at hr
        · rename_i f args hop
          split at hr
          · rename_i g' first cap hf
            split at hr
            · rename_i v m1 hcall
              exact call_wp hC hcf hE o (opOf_some hop (by simp)) hf hR hcall fun u w' ρ' hv hs' => go e m1 _ u v w' ρ' hr hv hs'
            · cases hr
          · cases hr
        · rename_i f args hop
          exact absurd hop ((opOf_noZ _).1 _ _)
        · rename_i hnc hncz
          split at hr
          · rename_i v m1 hst
            have hnf : opOf P o.op ≠ .fail := by
              intro hf
              rw [hf] at hst
              simp [stepOp] at hst
            refine upon_writes (one_plain hE o (opOf_some rfl hnf) (fun f l hfl => hnc f l hfl) hR hst) fun u w' ρ' hv hs' => go e m1 _ u v w' ρ' hr hv hs'
          · cases hr
    · cases hc
inductive ExitR : AExit → Exit → Prop
  | normal : ExitR .normal .normal
  | exit (id : Nat) : ExitR (.exit id) (.exit id)
  | ret : ExitR .ret .ret
def RegOk (P : Program) (C : Prog) (n : Nat) : Prop :=
  ∀ br k id ops draw r aops,cCode P br k (.region id ops draw) = some (.region r aops) → ∀ e m e' m',runOps (callA C n) m.next aops e (m.reserve r) [m.reserve r] = some (e',m') →
    ∀ ρ w a,Rel ρ m w → EnvR P ρ e a → k ≤ a.tmps.size → ∀ Q : Exit → Act → World → Prop,
      (∀ a' w' ρ',EnvR P ρ' e' a' → Stp ρ m w ρ' m' w' → a'.tmps.size = a.tmps.size → a'.defers = a.defers → Q .normal a' w') → (Code.region id ops draw).wp P Q a w
def After (P : Program) (ρ : PM) (m : Mem) (w : World) (sz : Nat) (x : AExit) (e' : Env) (m' : Mem) : Exit → Act → World → Prop :=
  fun X a' w' => ExitR x X ∧ ∃ ρ',EnvR P ρ' e' a' ∧ Stp ρ m w ρ' m' w' ∧ a'.tmps.size = sz ∧ a'.defers = []
theorem exec_sound {C : Prog} : ∀ (n : Nat),(∀ j,j < n → RegOk P C j) → ∀ (c : Code) (br : Bool) (k : Nat) (ac : ACode) (e : Env) (m : Mem) (x : AExit) (e' : Env) (m' : Mem),cCode P br k c = some ac → exec C n ac e m = some (x,e',m') →
    ∀ (ρ : PM) (w : World) (a : Act),Rel ρ m w → EnvR P ρ e a → k ≤ a.tmps.size → a.defers = [] → c.wp P (After P ρ m w a.tmps.size x e' m') a w
  | 0,_,c,br,k,ac,e,m,x,e',m',hc,hx => by simp [exec] at hx
  | n + 1,hreg,c,br,k,ac,e,m,x,e',m',hc,hx => by
    intro ρ w a hR hE hsz hds
    have hreg' : ∀ j,j < n → RegOk P C j := fun j hj => hreg j (by omega)
    cases c with
    | skip =>
      simp only [cCode,Option.some.injEq] at hc; subst hc
      simp only [exec,Option.some.injEq,Prod.mk.injEq] at hx; obtain ⟨rfl,rfl,rfl⟩ := hx
      exact wp_skip ⟨.normal,ρ,hE,Stp.refl hR,rfl,hds⟩
    | exit id =>
      simp only [cCode,Option.some.injEq] at hc; subst hc
      simp only [exec,Option.some.injEq,Prod.mk.injEq] at hx; obtain ⟨rfl,rfl,rfl⟩ := hx
      exact wp_exit ⟨.exit id,ρ,hE,Stp.refl hR,rfl,hds⟩
    | ret =>
      simp only [cCode,Option.some.injEq] at hc; subst hc
      simp only [exec,Option.some.injEq,Prod.mk.injEq] at hx; obtain ⟨rfl,rfl,rfl⟩ := hx
      exact wp_ret ⟨.ret,ρ,hE,Stp.refl hR,rfl,hds⟩
    | region id ops draw =>
      have hshape : ∃ r aops,ac = .region r aops := by
        simp only [cCode] at hc
        cases hd : dstOk k ops.toList
        · simp [hd] at hc
        · simp only [hd,cond_true] at hc
          cases draw
          · simp only [cond_false,Option.map_eq_some_iff] at hc; obtain ⟨l,_,rfl⟩ := hc; exact ⟨_,_,rfl⟩
          · simp only [cond_true] at hc
            revert hc
            generalize drawOk _ _ _ _ _ _ _ = q
            cases q
            · simp
            · simp only [cond_true,Option.map_eq_some_iff]; rintro ⟨l,_,rfl⟩; exact ⟨_,_,rfl⟩
      obtain ⟨r,aops,rfl⟩ := hshape
      have hx' : (match runOps (callA C n) m.next aops e (m.reserve r) [m.reserve r] with | some (e',m') => some (AExit.normal,e',m') | none => none) = some (x,e',m') := hx
      split at hx'
      · rename_i e1 m1 hrun
        simp only [Option.some.injEq,Prod.mk.injEq] at hx'; obtain ⟨rfl,rfl,rfl⟩ := hx'
        exact hreg n (Nat.lt_succ_self n) br k id ops draw r aops hc e m e1 m1 hrun ρ w a hR hE hsz _ fun a' w' ρ' h1 h2 h3 h4 => ⟨.normal,ρ',h1,h2,h3,h4.trans hds⟩
      · cases hx'
    | seq c1 c2 =>
      simp only [cCode] at hc
      split at hc <;> cases hc
      rename_i a1 a2 h1 h2
      simp only [exec] at hx
      split at hx
      · rename_i e1 m1 hx1
        refine wp_seq (wp_mono (exec_sound n hreg' c1 br k a1 e m _ _ _ h1 hx1 ρ w a hR hE hsz hds) ?_)
        rintro X a1' w1 ⟨hX,ρ1,hE1,hS1,hs1,hd1⟩
        cases hX
        refine wp_mono (exec_sound n hreg' c2 br k a2 e1 m1 _ _ _ h2 hx ρ1 w1 a1' hS1.rel hE1 (by omega) hd1) ?_
        rintro X a2' w2 ⟨hX,ρ2,hE2,hS2,hs2,hd2⟩
        exact ⟨hX,ρ2,hE2,hS1.trans hS2,by omega,hd2⟩
      · rename_i r hnr
        refine wp_seq (wp_mono (exec_sound n hreg' c1 br k a1 e m _ _ _ h1 hx ρ w a hR hE hsz hds) ?_)
        rintro X a1' w1 ⟨hX,ρ1,hE1,hS1,hs1,hd1⟩
        cases hX with
        | normal => exact absurd hx (hnr _ _)
        | exit id => exact ⟨.exit id,ρ1,hE1,hS1,hs1,hd1⟩
        | ret => exact ⟨.ret,ρ1,hE1,hS1,hs1,hd1⟩
    | cond q c1 c2 =>
      simp only [cCode] at hc
      split at hc <;> cases hc
      rename_i q' a1 a2 h0 h1 h2
      have hv := cOpd_sound hE h0
      simp only [exec] at hx
      split at hx
      · rename_i hq
        rw [hq] at hv
        exact wp_cond_true ((hv.bool_iff true).1 rfl) (exec_sound n hreg' c1 br k a1 e m _ _ _ h1 hx ρ w a hR hE hsz hds)
      · rename_i hq
        rw [hq] at hv
        exact wp_cond_false ((hv.bool_iff false).1 rfl) (exec_sound n hreg' c2 br k a2 e m _ _ _ h2 hx ρ w a hR hE hsz hds)
      · cases hx
    | block id c1 =>
      simp only [cCode,Option.map_eq_some_iff] at hc; obtain ⟨a1,h1,rfl⟩ := hc
      simp only [exec] at hx
      split at hx
      · rename_i id' e1 m1 hx1
        refine wp_block (wp_mono (exec_sound n hreg' c1 br k a1 e m _ _ _ h1 hx1 ρ w a hR hE hsz hds) ?_)
        rintro X a1' w1 ⟨hX,ρ1,hE1,hS1,hs1,hd1⟩
        cases hX
        simp only [Exit.inBlock]
        cases hid : Nat.beq id' id
        · simp only [hid,cond_false,Option.some.injEq,Prod.mk.injEq] at hx; obtain ⟨rfl,rfl,rfl⟩ := hx
          rw [if_neg (by rintro rfl; simp at hid)]
          exact ⟨.exit id',ρ1,hE1,hS1,hs1,hd1⟩
        · simp only [hid,cond_true,Option.some.injEq,Prod.mk.injEq] at hx; obtain ⟨rfl,rfl,rfl⟩ := hx
          rw [if_pos (by simpa using hid)]
          exact ⟨.normal,ρ1,hE1,hS1,hs1,hd1⟩
      · rename_i r hnr
        refine wp_block (wp_mono (exec_sound n hreg' c1 br k a1 e m _ _ _ h1 hx ρ w a hR hE hsz hds) ?_)
        rintro X a1' w1 ⟨hX,ρ1,hE1,hS1,hs1,hd1⟩
        cases hX with
        | normal => exact ⟨.normal,ρ1,hE1,hS1,hs1,hd1⟩
        | exit id => exact absurd hx (hnr _ _ _)
        | ret => exact ⟨.ret,ρ1,hE1,hS1,hs1,hd1⟩
    | loop c1 =>
      simp only [cCode,Option.map_eq_some_iff] at hc; obtain ⟨a1,h1,rfl⟩ := hc
      have key : ∀ (j : Nat),j ≤ n → ∀ (e1 : Env) (m1 : Mem) (ρ1 : PM) (w1 : World) (b1 : Act),exec C (j + 1) (.loop a1) e1 m1 = some (x,e',m') → Rel ρ1 m1 w1 → EnvR P ρ1 e1 b1 → Stp ρ m w ρ1 m1 w1 →
          b1.tmps.size = a.tmps.size → b1.defers = [] → Code.rounds P c1 (After P ρ m w a.tmps.size x e' m') (j + 1) b1 w1 := by
        intro j
        induction j with
        | zero =>
          intro hj e1 m1 ρ1 w1 b1 hx1 hR1 hE1 hS1 hs1 hd1
          simp [exec] at hx1
        | succ j ih =>
          intro hj e1 m1 ρ1 w1 b1 hx1 hR1 hE1 hS1 hs1 hd1
          rw [rounds_succ]
          rw [exec] at hx1
          have hreg1 : ∀ i,i < j + 1 → RegOk P C i := fun i hi => hreg i (by omega)
          split at hx1
          · rename_i e2 m2 hb
            refine wp_mono (exec_sound (j + 1) hreg1 c1 br k a1 e1 m1 _ _ _ h1 hb ρ1 w1 b1 hR1 hE1 (by omega) hd1) ?_
            rintro X b2 w2 ⟨hX,ρ2,hE2,hS2,hs2,hd2⟩
            cases hX
            exact ih (by omega) e2 m2 ρ2 w2 b2 hx1 hS2.rel hE2 (hS1.trans hS2) (by omega) hd2
          · rename_i r hnr
            refine wp_mono (exec_sound (j + 1) hreg1 c1 br k a1 e1 m1 _ _ _ h1 hx1 ρ1 w1 b1 hR1 hE1 (by omega) hd1) ?_
            rintro X b2 w2 ⟨hX,ρ2,hE2,hS2,hs2,hd2⟩
            cases hX with
            | normal => exact absurd hx1 (hnr _ _)
            | exit id => exact ⟨.exit id,ρ2,hE2,hS1.trans hS2,by omega,hd2⟩
            | ret => exact ⟨.ret,ρ2,hE2,hS1.trans hS2,by omega,hd2⟩
      exact wp_loop_rounds (n + 1) (key n (Nat.le_refl n) e m ρ w a hx hR hE (Stp.refl hR) rfl hds)
    | scope c1 => simp only [cCode,Option.some.injEq] at hc; subst hc; simp [exec] at hx
    | label l => simp only [cCode,Option.some.injEq] at hc; subst hc; simp [exec] at hx
    | goto l => simp only [cCode,Option.some.injEq] at hc; subst hc; simp [exec] at hx
    | refuse y => simp only [cCode,Option.some.injEq] at hc; subst hc; simp [exec] at hx
    | rangeFunc f ps c1 c2 => simp only [cCode,Option.some.injEq] at hc; subst hc; simp [exec] at hx
  termination_by n => n
end Go.Am
