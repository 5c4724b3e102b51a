/-
  THE LIST MACHINE, 6: one step.
-/
import Derived.Test.YtoppeojgadbjeaaLm5
set_option linter.unusedVariables false
namespace Go.Am
variable [Glo]
section
variable {s : Sit} {lo : Nat} {le : LEnv} {ae : Env}
def EnvL (s : Sit) (le : LEnv) (ae : Env) : Prop := ∀ t,LR s (le.at t) (ae.at t)
theorem EnvL.opd (h : EnvL s le ae) (hg : GOk s) (x : Opd) : OpdR s le ae x := by
  cases x with
  | t n => exact h n
  | c v => exact LR.evC hg v
omit [Glo] in
theorem EnvL.mono {t : Sit} (hk : Keeps s t) (h : EnvL s le ae) : EnvL t le ae := fun n => (h n).mono hk
def touched (le : LEnv) (op : AOp) (i : Nat) : Prop :=
  match op with
  | .store _ a _ => ∃ o L,evL le a = .ptr i o L
  | .append _ _ x _ => ∃ o n cap g sz L,evL le x = .sl i o n cap g sz L
  | .copy _ x _ => ∃ o n cap g sz L,evL le x = .sl i o n cap g sz L
  | .clr _ x => ∃ o n cap g sz L,evL le x = .sl i o n cap g sz L
  | .clrs _ x => ∃ o n cap g sz L,evL le x = .sl i o n cap g sz L
  | .putM x _ _ => evL le x = .map i
  | _ => False
theorem optNat_ok (h : EnvL s le ae) (hg : GOk s) {d n : Nat} : ∀ {x : Option Opd},optNatL d (x.map (evL le)) = some n → optNat? d (x.map (·.ev ae)) = some n
  | none,e => e
  | some x,e => LR.natL (h.opd hg x) e
omit [Glo] in
theorem optNat_none (d : Nat) : optNat? d none = some d := rfl
omit [Glo] in
theorem optNat_some (d : Nat) (v : AV) : optNat? d (some v) = nat? v := rfl
omit [Glo] in
theorem mul_sub_le (l h n sz : Nat) (h1 : l ≤ h) (h2 : h ≤ n) : l * sz + (h - l) * sz ≤ n * sz ∧ (h - l) * sz ≤ n * sz - l * sz := by
  have e : l * sz + (h - l) * sz = h * sz := by rw [← Nat.add_mul]; congr 1; omega
  have := Nat.mul_le_mul_right sz h2
  omega
omit [Glo] in
theorem sub_list {α : Type} (l : List α) (o N p q : Nat) (h : q ≤ N - p) : ((((l.drop o).take N).drop p).take q) = (l.drop (o + p)).take q := by
  rw [List.drop_take,List.take_take,List.drop_drop,Nat.min_eq_left h]
theorem sliceArr_ok (hE : EnvL s le ae) (hg : GOk s) {n size : Nat} {x v : LV} {a : AV} {lo' hi : Option Opd} (hx : LR s x a) (h : sliceArrL n size x (lo'.map (evL le)) (hi.map (evL le)) = some v) :
    ∃ av,sliceArr n size a (lo'.map (·.ev ae)) (hi.map (·.ev ae)) = some av ∧ LR s v av := by
  unfold sliceArrL at h
  split at h
  · rename_i i o L
    obtain ⟨b,rfl,g1,g2⟩ := hx.ptr_inv
    split at h
    · rename_i hh l hhh hl
      simp only [sliceArr,optNat_ok hE hg hhh,optNat_ok hE hg hl]
      cases hc : (Nat.ble hh n && Nat.ble l hh) <;> rw [hc] at h <;> simp only [cond_true,cond_false,Option.some.injEq,reduceCtorEq] at h
      subst h
      exact ⟨_,rfl,.sl g1 g2 (.inl rfl)⟩
    · cases h
  · cases h
theorem slice_ok (hE : EnvL s le ae) (hg : GOk s) {size : Nat} {x v : LV} {a : AV} {lo' hi mx : Option Opd} (hx : LR s x a) (h : sliceL size x (lo'.map (evL le)) (hi.map (evL le)) (mx.map (evL le)) = some v) :
    ∃ av,sliceOf size a (lo'.map (·.ev ae)) (hi.map (·.ev ae)) (mx.map (·.ev ae)) = some av ∧ LR s v av := by
  unfold sliceL at h
  split at h
  · rename_i i o n cap g sz L
    obtain ⟨b,rfl,g1,g2,g3⟩ := hx.sl_inv
    split at h
    · rename_i m hh l hm hhh hl
      simp only [sliceOf,optNat_ok hE hg hm,optNat_ok hE hg hhh,optNat_ok hE hg hl,Option.isSome_map] at h ⊢
      cases hc : ((Nat.ble m cap && (Nat.ble hh m && Nat.ble l hh)) && (mx.isSome || (Nat.beq g 0 || Nat.beq g size))) <;> rw [hc] at h <;> simp only [cond_true,cond_false,Option.some.injEq,reduceCtorEq] at h
      subst h
      refine ⟨_,rfl,.sl g1 g2 ?_⟩
      cases mx.isSome
      · exact g3
      · exact .inl rfl
    · cases h
  · rename_i nl ex sz n cs
    have key : ∀ (hh l m : Nat) (ex' : Bool) (mxs : Bool),hh ≤ n → l ≤ hh → (nl = true ∨ size = sz) → v = .lst nl ex' sz (hh - l) ((cs.drop (l * sz)).take ((hh - l) * sz)) → (mxs = true → hh ≤ m ∧ m ≤ n ∧ (ex' = true → hh = m)) → (mxs = false → ex' = true → ex = true ∧ hh = n) →
        (nl = true ∧ a = .nilslice ∧ LR s v .nilslice ∧ hh = 0 ∧ l = 0 ∧ n = 0) ∨ (nl = false ∧ ∃ b o cap g,a = .slice b o n cap g ∧ n ≤ cap ∧ (g = 0 ∨ g = size) ∧ LR s v (.slice b (o + l * size) (hh - l) (cond mxs m cap - l) (cond mxs 0 g))) := by
      intro hh l m ex' mxs h1 h2 h3 h4 h5 h6
      subst h4
      rcases hx.lst_inv with ⟨rfl,rfl,rfl,rfl⟩ | ⟨rfl,b,o,cap,g,blk,rfl,g1,g2,g3,g4,g5,g6,g7,g8⟩
      · have : hh = 0 := by omega
        subst this
        have : l = 0 := by omega
        subst this
        refine .inl ⟨rfl,rfl,?_,rfl,rfl,rfl⟩
        simp only [Nat.zero_mul,List.drop_nil,List.take_nil,Nat.sub_zero]
        exact .nil
      · have hsz : size = sz := by rcases h3 with c | c; cases c; exact c
        subst hsz
        obtain ⟨k1,k2⟩ := mul_sub_le l hh n size h2 h1
        refine .inr ⟨rfl,b,o,cap,g,rfl,g6,g7,.lst g1 g2 (by omega) ?_ (pures_take _ (pures_drop _ g5)) ?_ ?_ ?_⟩
        · rw [← sub_list _ _ (n * size) _ _ k2]
          exact (g4.drop _).take _
        · cases mxs
          · show _ ≤ cap - l; omega
          · have := h5 rfl; show _ ≤ m - l; omega
        · cases mxs
          · exact g7
          · exact .inl rfl
        · intro e
          cases mxs
          · obtain ⟨e1,e2⟩ := h6 rfl e
            obtain ⟨e3,e4⟩ := g8 e1
            exact ⟨e3,by show cap - l = _; omega⟩
          · exact ⟨rfl,by show m - l = _; have := (h5 rfl).2.2 e; omega⟩
    cases mx with
    | none =>
      simp only [Option.map_none] at h ⊢
      split at h
      · rename_i hh l hhh hl
        cases hc : ((nl || Nat.beq size sz) && (Nat.ble hh n && Nat.ble l hh)) <;> rw [hc] at h <;> simp only [cond_true,cond_false,Option.some.injEq,reduceCtorEq] at h
        simp only [Bool.and_eq_true,Bool.or_eq_true] at hc
        obtain ⟨c1,c2,c3⟩ := hc
        have c2 : hh ≤ n := by simpa using c2
        have c3 : l ≤ hh := by simpa using c3
        rcases key hh l 0 _ false c2 c3 (by rcases c1 with c | c; exact .inl c; exact .inr (by simpa using c)) h.symm (by simp) (by simp) with ⟨rfl,rfl,k1,rfl,rfl,rfl⟩ | ⟨rfl,b,o,cap,g,rfl,k1,k2,k3⟩
        · exact ⟨.nilslice,by simp only [sliceOf,optNat_none,optNat_ok hE hg hhh,optNat_ok hE hg hl],k1⟩
        · have hl' : optNat? n (hi.map (·.ev ae)) = some hh := optNat_ok hE hg hhh
          refine ⟨_,?_,k3⟩
          simp only [sliceOf,optNat_none,hl',optNat_ok hE hg hl]
          rw [show (Nat.ble cap cap && (Nat.ble hh cap && Nat.ble l hh) && ((none : Option AV).isSome || (Nat.beq g 0 || Nat.beq g size))) = true by
            rcases k2 with c | c <;> simp [c] <;> omega]
          rfl
      · cases h
    | some mo =>
      simp only [Option.map_some] at h ⊢
      split at h
      · rename_i m hh l hm hhh hl
        cases hc : ((nl || Nat.beq size sz) && (Nat.ble m n && (Nat.ble hh m && Nat.ble l hh))) <;> rw [hc] at h <;> simp only [cond_true,cond_false,Option.some.injEq,reduceCtorEq] at h
        simp only [Bool.and_eq_true,Bool.or_eq_true] at hc
        obtain ⟨c1,c0,c2,c3⟩ := hc
        have c0 : m ≤ n := by simpa using c0
        have c2 : hh ≤ m := by simpa using c2
        have c3 : l ≤ hh := by simpa using c3
        have hm' : nat? (mo.ev ae) = some m := LR.natL (hE.opd hg mo) hm
        rcases key hh l m _ true (by omega) c3 (by rcases c1 with c | c; exact .inl c; exact .inr (by simpa using c)) h.symm (by intro _; exact ⟨c2,c0,by simp⟩) (by simp) with ⟨rfl,rfl,k1,rfl,rfl,rfl⟩ | ⟨rfl,b,o,cap,g,rfl,k1,k2,k3⟩
        · have : m = 0 := by omega
          subst this
          exact ⟨.nilslice,by simp only [sliceOf,optNat_some,hm',optNat_ok hE hg hhh,optNat_ok hE hg hl],k1⟩
        · have hl' : optNat? n (hi.map (·.ev ae)) = some hh := optNat_ok hE hg hhh
          refine ⟨_,?_,k3⟩
          simp only [sliceOf,optNat_some,hm',hl',optNat_ok hE hg hl]
          rw [show (Nat.ble m cap && (Nat.ble hh m && Nat.ble l hh) && ((some (mo.ev ae) : Option AV).isSome || (Nat.beq g 0 || Nat.beq g size))) = true by simp; omega]
          rfl
      · cases h
  · cases h
theorem step_ok (hs : Rel2 s) (hE : EnvL s le ae) {slot : Option Nat} (hslot : SlotOk lo s slot) {op : AOp} {v : LV} {lm' : LMem} (h : stepL le s.lm op = some (v,lm')) (hist : List Mem) (back : Nat) (hback : ∀ g n a,op = .load g n a → back = 0) :
    ∃ av am',stepOp ae s.am hist back slot op = some (av,am') ∧ Done lo s slot (touched le op) v lm' av am' := by
  by_cases hq : ∃ l,opdsOf op = some l ∧ ∀ g n a,op ≠ .load g n a
  · obtain ⟨l,hl,hnl⟩ := hq
    obtain ⟨rfl,av,h1,h2⟩ := pure_ok hl hnl (fun x _ => hE.opd hs.glo x) h s.am hist back slot
    exact ⟨av,s.am,h1,done_same hs slot _ h2⟩
  · cases op <;> simp only [opdsOf,Option.some.injEq,exists_eq_left',reduceCtorEq,not_true_eq_false,not_false_eq_true,implies_true,ne_eq,false_and,exists_false] at hq
    case load g n a =>
      obtain rfl := hback g n a rfl
      simp only [stepL] at h
      split at h
      · rename_i w hw
        simp only [Option.some.injEq,Prod.mk.injEq] at h
        obtain ⟨rfl,rfl⟩ := h
        obtain ⟨ax,h1,h2⟩ := load_ok hs (hE.opd hs.glo a) hw
        exact ⟨ax,s.am,by simp only [stepOp,h1],done_same hs slot _ h2⟩
      · cases h
    case box x =>
      simp only [stepL] at h
      split at h
      · rename_i cs hcs
        simp only [allocL,Option.some.injEq,Prod.mk.injEq] at h
        obtain ⟨rfl,rfl⟩ := h
        have hc := LR.cells (hE.opd hs.glo x) hcs
        refine ⟨_,_,rfl,new_done hs hslot hc _ ?_⟩
        obtain ⟨k1,k2⟩ := okNew (s := s) (allocIn s.am slot ⟨(x.ev ae).cells,true⟩).2 (allocIn s.am slot ⟨(x.ev ae).cells,true⟩).1 cs
        exact .ptr k1 fun _ => k2.symm
      · cases h
    case zero z =>
      simp only [stepL,allocL,Option.some.injEq,Prod.mk.injEq] at h
      obtain ⟨rfl,rfl⟩ := h
      refine ⟨_,_,rfl,new_done hs hslot (LRs.ofAVs s z) _ ?_⟩
      obtain ⟨k1,k2⟩ := okNew (s := s) (allocIn s.am slot ⟨z,true⟩).2 (allocIn s.am slot ⟨z,true⟩).1 (ofAVs z)
      exact .ptr k1 fun _ => k2.symm
    case build z ps =>
      simp only [stepL] at h
      split at h
      · rename_i cs hcs
        simp only [Option.some.injEq,Prod.mk.injEq] at h
        obtain ⟨rfl,rfl⟩ := h
        obtain ⟨cs',h1,h2,h3⟩ := fill_ok (fun p _ => hE.opd hs.glo p.2.2) (LRs.ofAVs s z) hcs
        exact ⟨.agg cs',s.am,by simp only [stepOp,h1],done_same hs slot _ (.agg h2)⟩
      · cases h
    case buildS z len ps =>
      simp only [stepL] at h
      split at h
      · rename_i cs hcs
        cases hc : (Nat.beq (len * (z.length / len)) z.length || Nat.beq len 0) <;> rw [hc] at h <;> simp only [cond_true,cond_false,reduceCtorEq] at h
        split at h
        · rename_i cs2 ids hv
          simp only [Option.some.injEq,Prod.mk.injEq] at h
          obtain ⟨rfl,rfl⟩ := h
          obtain ⟨cs',h1,h2,h3⟩ := fill_ok (fun p _ => hE.opd hs.glo p.2.2) (LRs.ofAVs s z) hcs
          obtain ⟨v1,v2,v3⟩ := viewL_ok (t := sitFreeze s ids) 100 hv h2 ⟨rfl,fun b hb => hb⟩ (hs.seen _)
          obtain ⟨r1,r2⟩ := freeze_ok (lo := lo) hs ids v3
          have hf : Free lo (sitFreeze s ids) (allocIn s.am slot ⟨cs',true⟩).2 (allocIn s.am slot ⟨cs',true⟩).1 ⟨cs',true⟩ := free_in (s := sitFreeze s ids) r1 hslot _
          obtain ⟨p1,p2⟩ := stay_ok r1 hf
          have hlen : cs'.length = z.length := by rw [← h2.length,h3,ofAVs_length]
          refine ⟨.slice (allocIn s.am slot ⟨cs',true⟩).1 0 len len 0,(allocIn s.am slot ⟨cs',true⟩).2,by simp only [stepOp,h1],sitStay (sitFreeze s ids) _ _,rfl,rfl,p1,r2.trans p2,?_,fun i b hb _ => ?_,fun r hr h0 hne => ?_⟩
          · have hq : 0 + len * (z.length / len) ≤ cs'.length := by
              rw [hlen,Nat.zero_add]
              exact Nat.mul_div_le _ _
            refine .lst (blk := ⟨cs',true⟩) (.inr rfl) (by show (allocIn s.am slot ⟨cs',true⟩).2.look _ = _; rw [hf.look,if_pos rfl]) hq ?_ (pures_take _ v2) (Nat.le_refl _) (.inl rfl) (fun _ => ⟨rfl,rfl⟩)
            rw [List.drop_zero]
            exact (v1.mono p2.keeps).take _
          · refine ⟨rfl,?_,?_⟩
            · show (allocIn s.am slot ⟨cs',true⟩).2.look _ = _
              rw [hf.look,if_neg]
              · rfl
              · intro e
                obtain ⟨ab,hab,_⟩ := hs.blk i b hb
                have := hf.none
                rw [← e] at this
                have this : s.am.look (s.ρ i) = none := this
                rw [hab] at this; cases this
            · show ∃ b',(freeze ids s.lm)[i]? = some b' ∧ _
              rw [freeze_get,hb]
              by_cases e : i ∈ ids
              · exact ⟨⟨b.cells,false⟩,by rw [if_pos e]; rfl,rfl⟩
              · exact ⟨b,by rw [if_neg e],rfl⟩
          · show (allocIn s.am slot ⟨cs',true⟩).2.look _ = _
            rw [hf.look,if_neg]
            · exact h0
            · cases slot with
              | none => show r ≠ s.am.next; omega
              | some q => show r ≠ q; exact fun e => hne (by rw [e])
        · cases h
      · cases h
    case store n a x =>
      simp only [stepL] at h
      split at h
      · rename_i lm2 hst
        simp only [Option.some.injEq,Prod.mk.injEq] at h
        obtain ⟨rfl,rfl⟩ := h
        obtain ⟨am',h1,h2⟩ := store_ok hs (hE.opd hs.glo a) (hE.opd hs.glo x) hst slot
        exact ⟨.undef,am',by simp only [stepOp,h1],h2⟩
      · cases h
    case mkS z bytes size l c =>
      simp only [stepL] at h
      split at h
      · rename_i n k hn hk
        cases hc : (Nat.ble n k && Nat.ble (k * bytes) roomMost && Nat.ble k roomMost) <;> rw [hc] at h <;> simp only [cond_true,cond_false,Option.some.injEq,Prod.mk.injEq,reduceCtorEq] at h
        obtain ⟨rfl,rfl⟩ := h
        have hz : LRs s (zerosL (ofAVs z) (k * size)) (zeros z (k * size)) := zeros_ok z _
        refine ⟨.slice (allocIn s.am slot ⟨zeros z (k * size),true⟩).1 0 n k 0,(allocIn s.am slot ⟨zeros z (k * size),true⟩).2,?_,new_done hs hslot hz _ ?_⟩
        · simp only [stepOp,LR.natL (hE.opd hs.glo l) hn,LR.natL (hE.opd hs.glo c) hk]
          rw [hc]
          rfl
        · obtain ⟨k1,k2⟩ := okNew (s := s) (allocIn s.am slot ⟨zeros z (k * size),true⟩).2 (allocIn s.am slot ⟨zeros z (k * size),true⟩).1 (zerosL (ofAVs z) (k * size))
          rw [zerosL_length] at k1
          exact .sl k1 (fun _ => k2.symm) (.inl rfl)
      · cases h
    case slc size x l hi mx =>
      simp only [stepL] at h
      split at h
      · rename_i w hw
        simp only [Option.some.injEq,Prod.mk.injEq] at h
        obtain ⟨rfl,rfl⟩ := h
        obtain ⟨av,h1,h2⟩ := slice_ok hE hs.glo (hE.opd hs.glo x) hw
        exact ⟨av,s.am,by simp only [stepOp,h1],done_same hs slot _ h2⟩
      · cases h
    case slcA k size x l hi =>
      simp only [stepL] at h
      split at h
      · rename_i w hw
        simp only [Option.some.injEq,Prod.mk.injEq] at h
        obtain ⟨rfl,rfl⟩ := h
        obtain ⟨av,h1,h2⟩ := sliceArr_ok hE hs.glo (hE.opd hs.glo x) hw
        exact ⟨av,s.am,by simp only [stepOp,h1],done_same hs slot _ h2⟩
      · cases h
    case clr z x =>
      simp only [stepL] at h
      split at h
      · rename_i lm2 hst
        simp only [Option.some.injEq,Prod.mk.injEq] at h
        obtain ⟨rfl,rfl⟩ := h
        obtain ⟨am',h1,h2⟩ := clr_ok hs (hE.opd hs.glo x) hst slot
        exact ⟨.undef,am',by simp only [stepOp,h1],h2⟩
      · cases h
    case clrs z x =>
      simp only [stepL] at h
      split at h
      · rename_i lm2 hst
        simp only [Option.some.injEq,Prod.mk.injEq] at h
        obtain ⟨rfl,rfl⟩ := h
        obtain ⟨am',h1,h2⟩ := clrs_ok hs (hE.opd hs.glo x) hst slot
        exact ⟨.undef,am',by simp only [stepOp,h1],h2⟩
      · cases h
    case appZ n b x y =>
      simp only [stepL] at h
      cases hk : awayL s.lm (evL le x) (evL le y)
      · rw [hk] at h; cases h
      rw [hk] at h
      simp only [cond_true] at h
      split at h
      · rename_i p hp
        simp only [Option.some.injEq,Prod.mk.injEq] at h
        obtain ⟨rfl,rfl⟩ := h
        obtain ⟨v1,lm1⟩ := p
        obtain ⟨av,am',h1,_⟩ := append_ok hs hslot.1 (hE.opd hs.glo x) (hE.opd hs.glo y) hp none
        have hak := away_ok hs (hE.opd hs.glo x) (hE.opd hs.glo y) hk
        obtain ⟨_,bo,bl,bc,bg,rfl⟩ := append_away hak h1
        exact ⟨.away n b (x.ev ae) (y.ev ae),s.am,by simp only [stepOp,hak,cond_true,h1],done_same hs slot _ (.away (hE.opd hs.glo x) (hE.opd hs.glo y))⟩
      · cases h
    case mkM =>
      simp only [stepL,Option.some.injEq,Prod.mk.injEq] at h
      obtain ⟨rfl,rfl⟩ := h
      exact ⟨_,_,rfl,newM_done hs hslot.1 slot _⟩
    case lookM ck z x k =>
      simp only [stepL] at h
      split at h
      · rename_i w hw
        simp only [Option.some.injEq,Prod.mk.injEq] at h
        obtain ⟨rfl,rfl⟩ := h
        obtain ⟨av,h1,h2⟩ := look_okL hs (hE.opd hs.glo x) (hE.opd hs.glo k) hw
        exact ⟨av,s.am,by simp only [stepOp,h1],done_same hs slot _ h2⟩
      · cases h
    case putM x k y =>
      simp only [stepL] at h
      split at h
      · rename_i lm2 hst
        simp only [Option.some.injEq,Prod.mk.injEq] at h
        obtain ⟨rfl,rfl⟩ := h
        obtain ⟨am',h1,h2⟩ := putM_ok hs (hE.opd hs.glo x) (hE.opd hs.glo k) (hE.opd hs.glo y) hst slot
        exact ⟨.undef,am',by simp only [stepOp,h1],h2⟩
      · cases h
    case mkF f xs ys =>
      simp only [stepL,Option.some.injEq,Prod.mk.injEq] at h
      obtain ⟨rfl,rfl⟩ := h
      exact ⟨_,s.am,rfl,done_same hs slot _ (.func (LRs.map xs fun x _ => hE.opd hs.glo x) (LRs.map ys fun x _ => hE.opd hs.glo x))⟩
    case append size bytes x y =>
      exact append_ok hs hslot.1 (hE.opd hs.glo x) (hE.opd hs.glo y) h slot
    case copy size x y =>
      exact copy_ok hs (hE.opd hs.glo x) (hE.opd hs.glo y) h slot
    case max xs =>
      simp only [stepL] at h
      have hm : LRs s (xs.map (evL le)) (xs.map (Opd.ev ae)) := LRs.map xs fun x _ => hE.opd hs.glo x
      split at h
      · rename_i k a r hr
        split at h
        · rename_i w hw
          simp only [Option.some.injEq,Prod.mk.injEq] at h
          obtain ⟨rfl,rfl⟩ := h
          rw [hr] at hm
          generalize hys : xs.map (Opd.ev ae) = ys at hm
          cases hm with
          | cons h1 h2 =>
            cases h1.int_inv
            obtain ⟨av,h3,h4⟩ := foldInt_ok (.int k a) h2 hw
            exact ⟨av,s.am,by simp only [stepOp,hys,h3],done_same hs slot _ h4⟩
        · cases h
      · cases h
    case min xs =>
      simp only [stepL] at h
      have hm : LRs s (xs.map (evL le)) (xs.map (Opd.ev ae)) := LRs.map xs fun x _ => hE.opd hs.glo x
      split at h
      · rename_i k a r hr
        split at h
        · rename_i w hw
          simp only [Option.some.injEq,Prod.mk.injEq] at h
          obtain ⟨rfl,rfl⟩ := h
          rw [hr] at hm
          generalize hys : xs.map (Opd.ev ae) = ys at hm
          cases hm with
          | cons h1 h2 =>
            cases h1.int_inv
            obtain ⟨av,h3,h4⟩ := foldInt_ok (.int k a) h2 hw
            exact ⟨av,s.am,by simp only [stepOp,hys,h3],done_same hs slot _ h4⟩
        · cases h
      · cases h
    case call => simp [stepL] at h
    case callZ => simp [stepL] at h
    case fail => simp [stepL] at h
end
end Go.Am
