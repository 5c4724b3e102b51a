/-
  THE ABSTRACT MACHINE, 21: code; ranges over functions: what the abstract machine's run gives, the model's run gives too.
-/
import Derived.Test.YtoppeojgadbjeaaAm22
import Derived.RangeFuncLeaves
set_option linter.unusedVariables false
set_option linter.unusedSimpArgs false
namespace Go.Am
variable [Glo]
variable {P : Program} {ρ : PM} {e : Env} {a : Act}
def After (P : Program) (ρ : PM) (m : Mem) (w : World) (B sz : Nat) (x : AExit) (e' : Env) (m' : Mem) : Exit → Act → World → Prop :=
  fun X a' w' => ExitR x X ∧ ∃ ρ',EnvR P ρ' e' a' ∧ Stp ρ m w ρ' m' w' ∧ a'.tmps.size = sz ∧ Mk B ρ' m' w' a'.defers
theorem range_sound {C : Prog} (hC : ProgOk C P) {n : Nat} (hcf : ∀ j,j < n → CallOk C P j) {f : Operand} {ps : Array Tmp} {c1 c2 : Code} {br : Bool} {q k : Nat} {ac : ACode} {m : Mem} {x : AExit} {e' : Env} {m' : Mem}
    (hc : cCode P br q k (.rangeFunc f ps c1 c2) = some ac) (hx : exec C (n + 1) ac e m = some (x,e',m')) {ro : Option Nat} (hlo : LoopsOk P q k (.rangeFunc f ps c1 c2)) (hro : q ≠ 0 → ro = none) {B : Nat} {w : World}
    (hB : B ≤ w.heap.size) (hR : Rel ρ m w) (hE : EnvR P ρ e a) (hsz : k ≤ a.tmps.size) (hds : Mk B ρ m w a.defers) : (Code.rangeFunc f ps c1 c2).wpIn (FW ro) 0 P (After P ρ m w B a.tmps.size x e' m') a w := by
  simp only [cCode] at hc
  cases hq : Nat.beq q 0
  case true => rw [hq] at hc; simp only [cond_true,Option.some.injEq] at hc; subst hc; simp [exec] at hx
  rw [hq] at hc
  simp only [cond_false] at hc
  split at hc
  case h_2 => cases hc
  rename_i f' ca cb h0 h1 h2
  simp only [Option.some.injEq] at hc
  subst hc
  have hq0 : q ≠ 0 := by rintro rfl; simp at hq
  have := hro hq0
  subst this
  obtain ⟨hrnd,hlow⟩ := (hlo.resolve_left hq0) 0 ps.toList c1 c2 rfl ca cb h1 h2
  simp only [Nat.mul_zero,Nat.add_zero] at hrnd hlow
  -- the abstract machine's run
  obtain ⟨rfl,hr⟩ := x_region hx
  obtain ⟨g0,first0,cap0,v0,m0,hf0,hcall0,hr⟩ := r_call hr
  simp only [Opd.ev,AV.func.injEq] at hf0
  obtain ⟨rfl,rfl,rfl⟩ := hf0
  simp only [runOps,putD,Option.some.injEq,Prod.mk.injEq] at hr
  obtain ⟨rfl,rfl⟩ := hr
  simp only [List.nil_append,List.append_nil,List.map_cons,List.map_map] at hcall0
  have haf : ∃ af,C (q + 1000000) = some af := by
    unfold callA at hcall0
    split at hcall0
    · rename_i af haf; exact ⟨af,haf⟩
    · cases hcall0
  obtain ⟨af,haf⟩ := haf
  obtain ⟨A,B1,C1,hcr,rfl⟩ := (hC.rounds q _ hrnd).2 af haf
  have hrnd' := hrnd
  replace hrnd' := (hC.rnd _ _).1 hrnd'
  obtain ⟨ca',cb',_,_,_,_,hps,hus,_,_,_,hhelp⟩ := cRound_some hrnd' hcr
  simp only at hus hhelp
  rw [hhelp] at haf
  have hgd : ∀ t,t < a.tmps.size → ((List.range a.tmps.size).map e.at).getD t .undef = e.at t := fun t ht => by
    rw [List.getD_eq_getElem?_getD,List.getElem?_map,List.getElem?_range ht]; rfl
  have hcaps : List.map (Opd.ev e ∘ Opd.t) (usOf ps.toList ca cb) = (usOf ps.toList ca cb).map fun t => ((List.range a.tmps.size).map e.at).getD t .undef :=
    List.map_congr_left fun t ht => (hgd t (Nat.lt_of_lt_of_le (hus t ht) hsz)).symm
  rw [hcaps] at hcall0
  obtain ⟨n2,g,first,cap,v2,m2,b,hn2,hF,hc2,hb,ho,hb0,rfl⟩ := help_run (by rw [haf]; simp) hcall0
  generalize hcp : ((usOf ps.toList ca cb).map fun t => ((List.range a.tmps.size).map e.at).getD t .undef) = caps at hc2
  refine wpIn_rangeFunc fun fn _ => ?_
  -- the model's blocks
  obtain ⟨rec,hrec⟩ : ∃ rec : Loop,rec = { state := .ready,pending := none,fn := fn,tmps := a.tmps,params := ps,assign := c1,body := c2,defers := w.heap.size } := ⟨_,rfl⟩
  obtain ⟨W0,hW0⟩ : ∃ W0,W0 = w.alloc (.deferred (some [])) := ⟨_,rfl⟩
  obtain ⟨W1,hW1⟩ : ∃ W1,W1 = W0.alloc (.loop rec) := ⟨_,rfl⟩
  have hW0s : W0.heap.size = w.heap.size + 1 := by rw [hW0]; simp
  obtain ⟨pl,hpl⟩ : ∃ pl : Place,pl = ⟨W0.heap.size,0,0,true,some (q,rec)⟩ := ⟨_,rfl⟩
  have hS0 : Stp ρ m w ρ m W0 := by rw [hW0]; exact Stp.other hR _
  have hnew : W1.heap[W0.heap.size]? = some (.loop rec) := by rw [hW1]; exact World.alloc_heap_new _ _
  have hS1 : Stp ρ m W0 (upd ρ m.next pl) (m.alloc ⟨[.bool true],true⟩) W1 := by
    have hB1 : BlkRel (upd ρ m.next pl) W1 ⟨[.bool true],true⟩ pl := by
      refine ⟨fun c => ?_,fun c => ?_,fun j r _ hl _ => ⟨true,.ready,none,rfl,rfl,?_,fun _ => ⟨rfl,rfl⟩⟩,fun _ c => ?_⟩
      · rw [hpl] at c; cases c
      · rw [hpl] at c; cases c
      · rw [hpl] at hl
        simp only [Option.some.injEq,Prod.mk.injEq] at hl
        obtain ⟨_,rfl⟩ := hl
        rw [hpl]
        simp only
        rw [hnew,hrec]
      · rw [hpl] at c; cases c
    exact Stp.newB (w' := W1) hS0.rel (ob := .loop rec) (by rw [hW1]; rfl) (by rw [hW1]; rfl) (by rw [hW1]; rfl) (by rw [hW1]; rfl) (by rw [hpl])
      (hS0.rel.newB (w' := W1) (hS0.rel.fresh _ (Nat.le_refl _)) (m' := m.alloc ⟨[.bool true],true⟩) (fun j => Mem.look_alloc m _ j) (Nat.le_succ _) (Nat.lt_succ_self _) (ob := .loop rec) (by rw [hW1]; rfl) (by rw [hpl]) hB1)
  obtain ⟨ρ1,hρ1⟩ : ∃ ρ1,ρ1 = upd ρ m.next pl := ⟨_,rfl⟩
  rw [← hρ1] at hS1
  have hle : PLe ρ ρ1 := (hS0.trans hS1).le hR
  have hat : ρ1 m.next = some pl := by rw [hρ1]; exact upd_same _ _ _
  have hfull : VRs ρ1 ((List.range a.tmps.size).map e.at) rec.tmps.toList := by
    rw [hrec]
    refine VRs.of_get (by simp) fun j x u hx hu => ?_
    have hj : j < a.tmps.size := by have := (List.getElem?_eq_some_iff.1 hx).1; simpa using this
    rw [List.getElem?_map,List.getElem?_range hj] at hx
    simp only [Option.map_some,Option.some.injEq] at hx
    subst hx
    have := (hE.slot j).mono hle
    simp only [Array.getElem?_toList] at hu
    rw [Array.getD_eq_getD_getElem?,hu] at this
    exact this
  have hVY : VR ρ1 (.func q [.ptr m.next 0] (caps ++ [.ptr m.next 0])) (.func (.yield W0.heap.size) #[] #[]) := by
    have := VR.yield (ρ := ρ1) (i := m.next) (p := pl) (j := q) (r := rec) (full := (List.range a.tmps.size).map e.at) (caps := caps) hat (by rw [hpl]) (by rw [hpl]) hlow hrnd (by rw [hrec]) (by rw [hrec]) (by rw [hrec]) (by rw [hrec]; exact hsz) hfull hcp.symm
    rw [hpl] at this
    exact this
  have hglob : Glob P ρ1 := (hE.mono hle).glob
  have hcg : ∃ af,C g = some af := by
    unfold callA at hc2
    split at hc2
    · rename_i af haf; exact ⟨af,haf⟩
    · cases hc2
  obtain ⟨ag,hag⟩ := hcg
  have hv := cOpd_sound hE h0
  rw [hF] at hv
  cases hcv : a.eval f <;> rw [hcv] at hv <;> cases hv
  case yield =>
    exfalso
    obtain ⟨R',hj'⟩ : ∃ R',Glo.rnd g R' := ⟨_,by assumption⟩
    obtain ⟨a1,b1,d1,hcr1,rfl,_⟩ := (hC.rounds g R' hj').1 ag hag
    have hj2 := hj'
    replace hj2 := (hC.rnd _ _).1 hj2
    obtain ⟨_,_,_,_,_,_,_,_,_,hw1,_,_⟩ := cRound_some hj2 hcr1
    rw [hw1] at hag
    obtain ⟨k',z,hy⟩ := wrap_conv hag hc2
    cases hy
  rename_i vs us' h00 h1' h2'
  obtain ⟨fg,hfn,hname,hbody,_⟩ := (hC.fn g ag h00 hag).out
  have hname' : ¬ fg.name = "runtime.NumGoroutine" := by simpa using hname
  have hbody' : ¬ fg.body = none := fun e0 => by rw [e0] at hbody; cases hbody
  have hcalls := hcf n2 hn2 g _ _ v2 m2 h00 hc2 (vs ++ #[.func (.yield W0.heap.size) #[] #[]] ++ us') ρ1 W1 (by
    simp only [Array.toList_append,List.append_assoc]
    exact (h1'.mono hle).append ((VRs.cons hVY .nil).append (h2'.mono hle))) hS1.rel hglob
  refine ⟨W0.heap.size,[{ target := .collected w.heap.size,args := #[] }],W1,{ target := .fn (.func g) us',args := vs ++ #[.func (.yield W0.heap.size) #[] #[]] },W1,g,vs ++ #[.func (.yield W0.heap.size) #[] #[]] ++ us',W1,?_,?_,fun _ _ => trivial,?_,fun h => (by simp [FW,Fence.wide] at h),?_⟩
  · rw [hW1,hrec,hW0s,hW0]
    exact run_enterLoop_outer fn a.tmps ps c1 c2
  · simp [resolve,hcv,Deferred.ofValue]
    rfl
  · simp [invoke,callFunc,run_program,hfn,hname',hbody']
  · refine CallsIn.mono (callsIn_wide.2 hcalls) ?_
    rintro E w3 ⟨u,ρ2,rfl,hv2,hs2⟩
    have hat2 : ρ2 m.next = some pl := by rw [hs2.old m.next (Nat.lt_succ_self _)]; exact hat
    obtain ⟨p',hp',hbr⟩ := hs2.rel.blk m.next b hb
    rw [hat2] at hp'; cases hp'
    obtain ⟨qq,st,pd,hcells,_,hheap,hready⟩ := hbr.loop q rec (by rw [hpl]) (by rw [hpl]) (.inl ho)
    rw [hcells] at hb0
    simp only [List.getElem?_cons_zero,Option.some.injEq,AV.bool.injEq] at hb0
    obtain ⟨rfl,rfl⟩ := hready hb0
    have hplb : pl.blk = W0.heap.size := by rw [hpl]
    rw [hplb] at hheap
    refine ⟨_,_,run_endLoop hheap (by simp),?_⟩
    have hlt3 : W0.heap.size < w3.heap.size := (Array.getElem?_eq_some_iff.1 hheap).1
    have hS3 : Stp ρ2 m2 w3 ρ2 (m2.put m.next ⟨splice b.cells 0 [.bool false],true⟩) (w3.putObj W0.heap.size (.loop { rec with state := .exhausted,pending := none })) := by
      refine Stp.writeB (w' := w3.putObj W0.heap.size (.loop { rec with state := .exhausted,pending := none })) hs2.rel hb ho hat2 (by simp [World.putObj]) (fun B' hB' => ?_) rfl rfl rfl ⟨fun c => ?_,fun c => ?_,fun j r _ hl _ => ⟨false,.exhausted,none,?_,rfl,?_,fun c => by cases c⟩,fun _ c => ?_⟩
      · simp only [World.putObj]
        rw [Array.getElem?_setIfInBounds,if_neg (by rw [← hplb]; exact Ne.symm hB')]
      · rw [hpl] at c; cases c
      · rw [hpl] at c; cases c
      · rw [hcells]; rfl
      · rw [hpl] at hl
        simp only [Option.some.injEq,Prod.mk.injEq] at hl
        obtain ⟨_,rfl⟩ := hl
        rw [hplb]
        exact World.putObj_heap_same hlt3
      · rw [hpl] at c; cases c
    refine ⟨.normal,ρ2,?_,((hS0.trans hS1).trans hs2).trans hS3,rfl,?_⟩
    · have := hE.mono (hle.trans (hs2.le hS1.rel))
      exact ⟨this.slot,this.glob⟩
    · have h1 := hds.push hR hB (w' := W0) (hw' := by rw [hW0]; rfl)
      exact ((h1.stp hS1).stp hs2).stp hS3
theorem exec_sound {C : Prog} (hC : ProgOk C P) : ∀ (n : Nat),(∀ j,j < n → RegOk P C j ∧ CallOk C P j) → ∀ (c : Code) (br : Bool) (q k : Nat) (ac : ACode) (e : Env) (m : Mem) (x : AExit) (e' : Env) (m' : Mem),cCode P br q k c = some ac → exec C n ac e m = some (x,e',m') →
    ∀ (ro : Option Nat),LoopsOk P q k c → (q ≠ 0 → ro = none) → ∀ (B : Nat) (ρ : PM) (w : World) (a : Act),B ≤ w.heap.size → Rel ρ m w → EnvR P ρ e a → k ≤ a.tmps.size → Mk B ρ m w a.defers → c.wpIn (FW ro) 0 P (After P ρ m w B a.tmps.size x e' m') a w
  | 0,_,c,br,q,k,ac,e,m,x,e',m',hc,hx => by simp [exec] at hx
  | n + 1,hreg,c,br,q,k,ac,e,m,x,e',m',hc,hx => by
    intro ro hlo hro B ρ w a hB hR hE hsz hds
    have hreg' : ∀ j,j < n → RegOk P C j ∧ CallOk C P j := fun j hj => hreg j (by omega)
    cases c with
    | skip =>
      simp only [cCode,Option.some.injEq] at hc; subst hc
      simp only [exec,Option.some.injEq,Prod.mk.injEq] at hx; obtain ⟨rfl,rfl,rfl⟩ := hx
      exact wpIn_skip ⟨.normal,ρ,hE,Stp.refl hR,rfl,hds⟩
    | exit id =>
      simp only [cCode,Option.some.injEq] at hc; subst hc
      simp only [exec,Option.some.injEq,Prod.mk.injEq] at hx; obtain ⟨rfl,rfl,rfl⟩ := hx
      exact wpIn_exit ⟨.exit id,ρ,hE,Stp.refl hR,rfl,hds⟩
    | ret =>
      simp only [cCode,Option.some.injEq] at hc; subst hc
      simp only [exec,Option.some.injEq,Prod.mk.injEq] at hx; obtain ⟨rfl,rfl,rfl⟩ := hx
      exact wpIn_ret ⟨.ret,ρ,hE,Stp.refl hR,rfl,hds⟩
    | region id ops draw =>
      have hshape : ∃ r aops,ac = .region r aops := by
        simp only [cCode] at hc
        cases hd : dstOk k ops.toList
        · simp [hd] at hc
        · simp only [hd,cond_true] at hc
          cases draw
          · simp only [cond_false,Option.map_eq_some_iff] at hc; obtain ⟨l,_,rfl⟩ := hc; exact ⟨_,_,rfl⟩
          · simp only [cond_true] at hc
            revert hc
            generalize drawOk _ _ _ _ _ _ _ = q
            cases q
            · simp
            · simp only [cond_true,Option.map_eq_some_iff]; rintro ⟨l,_,rfl⟩; exact ⟨_,_,rfl⟩
      obtain ⟨r,aops,rfl⟩ := hshape
      have hx' : (match runOps (callA C n) m.next aops e (m.reserve r) [m.reserve r] with | some (e',m') => some (AExit.normal,e',m') | none => none) = some (x,e',m') := hx
      split at hx'
      · rename_i e1 m1 hrun
        simp only [Option.some.injEq,Prod.mk.injEq] at hx'; obtain ⟨rfl,rfl,rfl⟩ := hx'
        exact (hreg n (Nat.lt_succ_self n)).1 br q k id ops draw r aops hc e m e1 m1 hrun ro ρ w a hR hE hsz _ fun a' w' ρ' h1 h2 h3 h4 => ⟨.normal,ρ',h1,h2,h3,by rw [h4]; exact hds.stp h2⟩
      · cases hx'
    | seq c1 c2 =>
      obtain ⟨LL1,LL2⟩ := hlo.two rfl
      simp only [cCode] at hc
      split at hc <;> cases hc
      rename_i a1 a2 h1 h2
      simp only [exec] at hx
      split at hx
      · rename_i e1 m1 hx1
        refine wpIn_seq (wpIn_mono (exec_sound hC n hreg' c1 br q k a1 e m _ _ _ h1 hx1 ro LL1 hro B ρ w a hB hR hE hsz hds) ?_)
        rintro X a1' w1 ⟨hX,ρ1,hE1,hS1,hs1,hd1⟩
        cases hX
        refine wpIn_mono (exec_sound hC n hreg' c2 br _ k a2 e1 m1 _ _ _ h2 hx ro LL2 (fun h => hro (next_zero h)) B ρ1 w1 a1' (Nat.le_trans hB hS1.size) hS1.rel hE1 (by omega) hd1) ?_
        rintro X a2' w2 ⟨hX,ρ2,hE2,hS2,hs2,hd2⟩
        exact ⟨hX,ρ2,hE2,hS1.trans hS2,by omega,hd2⟩
      · rename_i r hnr
        refine wpIn_seq (wpIn_mono (exec_sound hC n hreg' c1 br q k a1 e m _ _ _ h1 hx ro LL1 hro B ρ w a hB hR hE hsz hds) ?_)
        rintro X a1' w1 ⟨hX,ρ1,hE1,hS1,hs1,hd1⟩
        cases hX with
        | normal => exact absurd hx (hnr _ _)
        | exit id => exact ⟨.exit id,ρ1,hE1,hS1,hs1,hd1⟩
        | ret => exact ⟨.ret,ρ1,hE1,hS1,hs1,hd1⟩
    | cond qq c1 c2 =>
      obtain ⟨LL1,LL2⟩ := hlo.two rfl
      simp only [cCode] at hc
      split at hc <;> cases hc
      rename_i q' a1 a2 h0 h1 h2
      have hv := cOpd_sound hE h0
      simp only [exec] at hx
      split at hx
      · rename_i hq
        rw [hq] at hv
        exact wpIn_cond_true ((hv.bool_iff true).1 rfl) (exec_sound hC n hreg' c1 br q k a1 e m _ _ _ h1 hx ro LL1 hro B ρ w a hB hR hE hsz hds)
      · rename_i hq
        rw [hq] at hv
        exact wpIn_cond_false ((hv.bool_iff false).1 rfl) (exec_sound hC n hreg' c2 br _ k a2 e m _ _ _ h2 hx ro LL2 (fun h => hro (next_zero h)) B ρ w a hB hR hE hsz hds)
      · cases hx
    | block id c1 =>
      have LL1 : LoopsOk P q k c1 := hlo
      simp only [cCode,Option.map_eq_some_iff] at hc; obtain ⟨a1,h1,rfl⟩ := hc
      simp only [exec] at hx
      split at hx
      · rename_i id' e1 m1 hx1
        refine wpIn_block (wpIn_mono (exec_sound hC n hreg' c1 br q k a1 e m _ _ _ h1 hx1 ro LL1 hro B ρ w a hB hR hE hsz hds) ?_)
        rintro X a1' w1 ⟨hX,ρ1,hE1,hS1,hs1,hd1⟩
        cases hX
        simp only [Exit.inBlock]
        cases hid : Nat.beq id' id
        · simp only [hid,cond_false,Option.some.injEq,Prod.mk.injEq] at hx; obtain ⟨rfl,rfl,rfl⟩ := hx
          rw [if_neg (by rintro rfl; simp at hid)]
          exact ⟨.exit id',ρ1,hE1,hS1,hs1,hd1⟩
        · simp only [hid,cond_true,Option.some.injEq,Prod.mk.injEq] at hx; obtain ⟨rfl,rfl,rfl⟩ := hx
          rw [if_pos (by simpa using hid)]
          exact ⟨.normal,ρ1,hE1,hS1,hs1,hd1⟩
      · rename_i r hnr
        refine wpIn_block (wpIn_mono (exec_sound hC n hreg' c1 br q k a1 e m _ _ _ h1 hx ro LL1 hro B ρ w a hB hR hE hsz hds) ?_)
        rintro X a1' w1 ⟨hX,ρ1,hE1,hS1,hs1,hd1⟩
        cases hX with
        | normal => exact ⟨.normal,ρ1,hE1,hS1,hs1,hd1⟩
        | exit id => exact absurd hx (hnr _ _ _)
        | ret => exact ⟨.ret,ρ1,hE1,hS1,hs1,hd1⟩
    | loop c1 =>
      have LL1 : LoopsOk P q k c1 := hlo
      simp only [cCode,Option.map_eq_some_iff] at hc; obtain ⟨a1,h1,rfl⟩ := hc
      have key : ∀ (j : Nat),j ≤ n → ∀ (e1 : Env) (m1 : Mem) (ρ1 : PM) (w1 : World) (b1 : Act),exec C (j + 1) (.loop a1) e1 m1 = some (x,e',m') → Rel ρ1 m1 w1 → EnvR P ρ1 e1 b1 → Stp ρ m w ρ1 m1 w1 →
          b1.tmps.size = a.tmps.size → Mk B ρ1 m1 w1 b1.defers → Code.roundsIn (FW ro) 0 P c1 (After P ρ m w B a.tmps.size x e' m') (j + 1) b1 w1 := by
        intro j
        induction j with
        | zero =>
          intro hj e1 m1 ρ1 w1 b1 hx1 hR1 hE1 hS1 hs1 hd1
          simp [exec] at hx1
        | succ j ih =>
          intro hj e1 m1 ρ1 w1 b1 hx1 hR1 hE1 hS1 hs1 hd1
          rw [roundsIn_succ]
          rw [exec] at hx1
          have hreg1 : ∀ i,i < j + 1 → RegOk P C i ∧ CallOk C P i := fun i hi => hreg i (by omega)
          split at hx1
          · rename_i e2 m2 hb
            refine wpIn_mono (exec_sound hC (j + 1) hreg1 c1 br q k a1 e1 m1 _ _ _ h1 hb ro LL1 hro B ρ1 w1 b1 (Nat.le_trans hB hS1.size) hR1 hE1 (by omega) hd1) ?_
            rintro X b2 w2 ⟨hX,ρ2,hE2,hS2,hs2,hd2⟩
            cases hX
            exact ih (by omega) e2 m2 ρ2 w2 b2 hx1 hS2.rel hE2 (hS1.trans hS2) (by omega) hd2
          · rename_i r hnr
            refine wpIn_mono (exec_sound hC (j + 1) hreg1 c1 br q k a1 e1 m1 _ _ _ h1 hx1 ro LL1 hro B ρ1 w1 b1 (Nat.le_trans hB hS1.size) hR1 hE1 (by omega) hd1) ?_
            rintro X b2 w2 ⟨hX,ρ2,hE2,hS2,hs2,hd2⟩
            cases hX with
            | normal => exact absurd hx1 (hnr _ _)
            | exit id => exact ⟨.exit id,ρ2,hE2,hS1.trans hS2,by omega,hd2⟩
            | ret => exact ⟨.ret,ρ2,hE2,hS1.trans hS2,by omega,hd2⟩
      exact wpIn_loop_rounds (n + 1) (key n (Nat.le_refl n) e m ρ w a hx hR hE (Stp.refl hR) rfl hds)
    | scope c1 => simp only [cCode,Option.some.injEq] at hc; subst hc; simp [exec] at hx
    | label l => simp only [cCode,Option.some.injEq] at hc; subst hc; simp [exec] at hx
    | goto l => simp only [cCode,Option.some.injEq] at hc; subst hc; simp [exec] at hx
    | refuse y => simp only [cCode,Option.some.injEq] at hc; subst hc; simp [exec] at hx
    | rangeFunc f ps c1 c2 => exact range_sound hC (fun j hj => (hreg' j hj).2) hc hx hlo hro hB hR hE hsz hds
  termination_by n => n
end Go.Am
