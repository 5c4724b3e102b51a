/-
  THE ABSTRACT MACHINE, 15: a region that draws its order: every order.
-/
import Derived.Test.YtoppeojgadbjeaaAm14
set_option linter.unusedVariables false
set_option linter.unusedSimpArgs false
namespace Go.Am
variable [Glo]
variable {P : Program}
omit [Glo] in
theorem guard_name {ops : Array Oper} {o : Oper} {g : Option (Nat × Bool)} (hg : guardOf ops o.guard = some g) : ∀ t b,g = some (t,b) → t ∈ namesOf P ops o := by
  intro t b hgt
  subst hgt
  unfold guardOf at hg
  split at hg
  · cases hg
  · rename_i j b' hgd
    split at hg
    · rename_i t' ht
      cases hg
      simp [namesOf,hgd,ht]
    · cases hg
theorem drawn_lin {C : Prog} {n0 : Nat} {ro : Option Nat} (hC : ProgOk C P) (hcf : CallOk C P n0) (hrn : RndOk C P n0) {ops : Array Oper} {aops : List AOper} {R : Nat} {pos back rank cnt : Nat → Nat} {fA fC : Nat → Bool} (D : DF P ops aops R pos back rank cnt fA fC)
    {base k : Nat} {st : Nat → St} {v : Nat → AV} (T : ∀ p o,aops[p]? = some o → Step1 (callA C n0) base o (st p) (v p) (st (p + 1))) (hk : dstOk k ops.toList = true)
    {cs : Nat → List AV} (hcs : ∀ i o,ops[i]? = some o → sortO P o = 2 → WantedAt ops st pos i → (st (pos i + 1)).m = (st (pos i)).m.put (base + rank i) ⟨cs i,true⟩)
    {ρ0 : PM} {m0 : Mem} {w0 : World} (hbase : m0.next ≤ base) {Q : Exit → Act → World → Prop} {sz : Nat} {ds : List Deferred}
    (hQ : ∀ a' w' ρ',EnvR P ρ' (st ops.size).e a' → Stp ρ0 m0 w0 ρ' (st ops.size).m w' → a'.tmps.size = sz → a'.defers = ds → Q .normal a' w') :
    ∀ (σ : List Nat) (S : Nat → Prop),Lin ops.size (direct ops) S σ → ∀ (pst : Nat) (ρ : PM) (X : Mem) (e : Env) (a : Act) (w : World),Inv P ops R pos rank fA base st v cs ρ0 m0 w0 S pst ρ X e a w →
      k ≤ a.tmps.size → a.tmps.size = sz → a.defers = ds → wpOpsIn (FW ro) 0 P ops Q σ a w
  | [], S,hlin,pst,ρ,X,e,a,w,I,hsz,hsz',hds => by
    cases hlin with
    | nil hall =>
      have no3 : ∀ i o,ops[i]? = some o → sortO P o = 3 → pst ≤ pos i → ¬ pos i < pst + (ops.size - pst) := fun i o ho h3 hle _ => I.i3 i o ho h3 hle (hall i (lt_of_get ho))
      obtain ⟨mf1,mf2⟩ := mem_fact D T hcs pst (ops.size - pst) (by have := I.i1; omega) no3
      rw [show pst + (ops.size - pst) = ops.size by have := I.i1; omega] at mf1 mf2
      refine hQ a w ρ ⟨fun t => ?_,I.i7.glob⟩ (I.i8.sub (by rw [mf1,I.i9]) fun j b hb => ?_) hsz' hds
      · have he : (st ops.size).e.at t = e.at t := by
          obtain ⟨f1,f2⟩ := env_fact D T t ops.size (Nat.le_refl _)
          obtain ⟨g1,g2⟩ := I.i6 t
          by_cases hw : ∃ (j : Nat) (b : Oper),ops[j]? = some b ∧ b.dst = some t
          · obtain ⟨j,b,hj,hb⟩ := hw
            rw [f1 j b hj hb (D.lt j (lt_of_get hj)),g1 j b hj hb (hall j (lt_of_get hj))]
          · rw [f2 fun j b hj hb => absurd ⟨j,b,hj,hb⟩ hw,g2 fun j b hj hb => absurd ⟨j,b,hj,hb⟩ hw]
        rw [he]
        exact I.i7.slot t
      · rcases mf2 j b hb with h | ⟨i',o',h1,h2,h3,h4,h5,rfl,rfl⟩
        · exact I.i10 j b h
        · exact I.i11 i' o' h1 h2 (hall i' (lt_of_get h1)) h3 h5
  | i :: r, S,hlin,pst,ρ,X,e,a,w,I,hsz,hsz',hds => by
    cases hlin with
    | cons hi hn hpd hr =>
      obtain ⟨o,ho⟩ : ∃ o,ops[i]? = some o := ⟨ops[i],by simp [hi]⟩
      have hp : ∀ j,need ops i j → S j := by
        intro j hj
        obtain ⟨j',hd,h⟩ := (befores_bit ops i j).1 hj
        rcases h with rfl | ⟨_,h⟩
        · exact hpd _ hd
        · exact I.i5 j' j (hpd j' hd) h
      have agree := names_agree D T I.i5 I.i6 ho hn hp
      obtain ⟨g,hg,hpe,hstep⟩ := step_of D T ho
      have hwe : wanted e g = wanted (st (pos i)).e g := wanted_congr fun t b hgt => agree t (guard_name hg t b hgt)
      have hwc := wanted_sound I.i7 (o := o) hg
      have hdst : ∀ t,o.dst = some t → t < a.tmps.size := fun t ht => by
        have hmem : o ∈ ops.toList := List.mem_of_getElem? (by simpa using ho)
        simp only [dstOk,List.all_eq_true] at hk
        have := hk o hmem
        rw [ht] at this
        have h2 : t < k := by simpa using this
        exact Nat.lt_of_lt_of_le h2 hsz
      -- how the rest goes on
      have go : ∀ (pst' : Nat) (ρ' : PM) (X' : Mem) (u : Value) (w' : World),Inv P ops R pos rank fA base st v cs ρ0 m0 w0 (fun k => S k ∨ k = i) pst' ρ' X' (putD e o.dst (v (pos i))) (a.put o.dst u) w' → wpOpsIn (FW ro) 0 P ops Q r (a.put o.dst u) w' :=
        fun pst' ρ' X' u w' I' => drawn_lin hC hcf hrn D T hk hcs hbase hQ r _ hr pst' ρ' X' _ _ w' I' (by rw [put_size]; exact hsz) (by rw [put_size]; exact hsz') (by rw [put_defers]; exact hds)
      have still : sortO P o ≠ 3 → (sortO P o = 2 → ¬ WantedAt ops st pos i) → ∀ u,VR ρ (v (pos i)) u → Inv P ops R pos rank fA base st v cs ρ0 m0 w0 (fun k => S k ∨ k = i) pst ρ X (putD e o.dst (v (pos i))) (a.put o.dst u) w := fun h3 h2 u hv =>
        inv_quiet D I ho hn hp h3 (I.i7.put hv o.dst hdst) I.i8 rfl I.i10
          (fun j b hj hs hor hle hw => by
            rcases hor with h | rfl
            · exact I.i11 j b hj hs h hle hw
            · rw [ho] at hj; cases hj; exact absurd hw (h2 hs))
          (fun j b hb => .inl hb) (fun j b hj hs hns _ => I.i13 j b hj hs hns)
          (.inr ⟨rfl,rfl,rfl,fun t ht => by
            cases hd : o.dst with
            | none => rfl
            | some d =>
              have hne : d ≠ t := fun c => ht (by rw [hd,c])
              simp only [Act.put,Array.getD_eq_getD_getElem?]
              rw [Array.getElem?_setIfInBounds_ne hne]⟩)
      have hh3 : sortO P o = 3 → (st (pos i + 1)).h[0]? = some (st (pos i + 1)).m := by
        intro h3
        have hb : Nat.beq (sortO P o) 3 = true := by simpa using h3
        rcases hstep with ⟨_,_,_,hm,hh⟩ | ⟨_,_,⟨f,args,g',first,cap,hop,_,_,hh⟩ | ⟨f,args,g',first,cap,hop,_,_,_,hh⟩ | ⟨_,_,hh⟩⟩
        · rw [hh,hb,hm]; rfl
        · rw [hh]; rfl
        · rw [hh]; rfl
        · rw [hh,hb]; rfl
      simp only [wpOpsIn,ho]
      rcases hstep with ⟨hnw,hw,hv,hm,hh⟩ | ⟨hw,hwt,hst⟩
      · rw [if_neg (by rw [hwc,hwe,hw]; simp)]
        refine ⟨fun _ _ => trivial,?_⟩
        by_cases h3 : sortO P o = 3
        · obtain ⟨hrel,hnext⟩ := inv_loud D T hcs I ho hn hp h3 (fun _ => hnw)
          obtain ⟨X',I'⟩ := hnext ρ w (a.put o.dst undef) (by rw [hm]; exact Stp.refl hrel) (I.i7.put (by rw [hv]; exact VR.undef ρ) o.dst hdst) (hh3 h3)
          exact go _ _ _ _ _ I'
        · exact go _ _ _ _ _ (still h3 (fun _ => hnw) undef (by rw [hv]; exact VR.undef ρ))
      · rw [if_pos (by rw [hwc,hwe,hwt])]
        have sag : ∀ t ∈ (opOf P o.op).slots,e.at t = (st (pos i)).e.at t := fun t ht => agree t (by simp [namesOf,ht])
        have noA : (∀ n b s x,opOf P o.op ≠ .append n b s x) → fA i = true → ¬ WantedAt ops st pos i := fun hna hf => by
          obtain ⟨j,a',c',n',b',s',x',t',f',l',q1,q2,q3,_⟩ := D.fa i hf
          rw [ho] at q1; cases q1
          exact absurd q3 (hna _ _ _ _)
        rcases hst with ⟨f,args,g',first,cap,hop,hf,hcall,_⟩ | ⟨f,args,g',first,cap,hop,hfc,hf,hbr,hhh⟩ | ⟨hnc,hst,hhh⟩
        · have h3 : sortO P o = 3 := by simp [sortO,hop,AOp.sort]
          obtain ⟨hrel,hnext⟩ := inv_loud D T hcs I ho hn hp h3 (noA (by rw [hop]; simp))
          rw [hop] at sag
          simp only [AOp.slots,List.mem_append] at sag
          rw [← ev_congr fun t ht => sag t (.inl ht)] at hf
          rw [← evs_congr fun t ht => sag t (.inr ht)] at hcall
          refine call_wp hC hcf hrn I.i7 o (opOf_some hop (by simp)) hf hrel hcall fun u w' ρ' hv hs => ?_
          obtain ⟨X',I'⟩ := hnext ρ' w' (a.put o.dst u) hs ((I.i7.mono (hs.le hrel)).put hv o.dst hdst) (hh3 h3)
          exact go _ _ _ _ _ I'
        · -- a call whose first argument is a list that was appended to for it
          have h3 : sortO P o = 3 := by simp [sortO,hop,AOp.sort]
          obtain ⟨i0,hP,hfA⟩ := D.fc i hfc
          have hP' := hP
          obtain ⟨a0,c0,n',b',s',x',t0,f0,l0,p1,p2,p3,p4,p5,p6,pall⟩ := hP
          rw [ho] at p2; cases p2
          rw [hop] at p5; cases p5
          have hs30 : sortO P a0 = 3 := by simp [sortO,p3,AOp.sort]
          have ahead := all_ahead D I ho hn hp h3
          have hpi := D.lt i hi
          have hle : pst ≤ pos i := Nat.le_of_not_lt fun h => hn (I.i2 i hi h)
          have hS0 := ahead i0 (lt_of_get p1) p6
          have hlt0 : pos i0 < pst := Nat.lt_of_not_le fun h => I.i3 i0 a0 p1 hs30 h hS0
          have hsame : (st (pos i)).m = (st pst).m := by
            have := mem_same D T pst (pos i - pst) (by omega) fun k b hk g1 g2 => by
              rcases pall k b hk with c | c | ⟨c,_⟩ <;> omega
            rw [show pst + (pos i - pst) = pos i by omega] at this
            exact this
          -- the slot of the list
          obtain ⟨ef1,_⟩ := env_fact D T t0 (pos i) (Nat.le_of_lt hpi)
          have hval := ef1 i0 a0 p1 p4 p6
          unfold branchA at hbr
          have hlow : g' < 100000 := by
            cases hq : Nat.blt g' 100000
            · rw [hq] at hbr; cases hbr
            · simpa using hq
          rw [show Nat.blt g' 100000 = true by simpa using hlow] at hbr
          simp only [cond_true] at hbr
          simp only [List.map_cons,Opd.ev,hval] at hbr
          split at hbr
          case h_2 => cases hbr
          rename_i n b sv xv r hargs
          simp only [List.cons.injEq] at hargs
          obtain ⟨hva,rfl⟩ := hargs
          have hw0 : WantedAt ops st pos i0 := Classical.byContradiction fun hnw0 => by
            obtain ⟨g0,hg0,_,hstep0⟩ := step_of D T p1
            rcases hstep0 with ⟨_,_,hv0,_⟩ | ⟨hw',_⟩
            · rw [hv0] at hva; cases hva
            · exact hnw0 hw'
          obtain ⟨hX,hPend⟩ := I.i16 i0 i a0 t0 p1 hfA hP' hlt0 hle hw0 p4
          obtain ⟨vv,m1,ρ1,k1,k2,k3,k4,k5,k6⟩ := hPend n b sv xv hva
          rw [hX] at k1 k4 k5 k6
          rw [hsame] at hbr
          rw [k1] at hbr
          simp only at hbr
          split at hbr
          case h_2 => cases hbr
          rename_i q m2 hcall
          split at hbr
          case h_2 => cases hbr
          rename_i m3 hgb
          simp only [Option.some.injEq,Prod.mk.injEq] at hbr
          obtain ⟨hq,hm3⟩ := hbr
          have hXrel : Rel ρ (st pst).m w := by rw [← hX]; exact I.i8.rel
          have hle1 : PLe ρ ρ1 := fun j p hpj => by
            have hj : j < (st pst).m.next := Nat.lt_of_not_le fun h => by rw [hXrel.fresh j h] at hpj; cases hpj
            rw [k5 j hj]; exact hpj
          rw [hop] at sag
          simp only [AOp.slots,List.mem_append,List.flatMap_cons] at sag
          rw [← ev_congr fun t ht => sag t (.inl ht)] at hf
          rw [← evs_congr fun t ht => sag t (.inr (.inr ht))] at hcall
          have hcg : ∃ af,C g' = some af := by
            unfold callA at hcall
            split at hcall
            · rename_i af haf; exact ⟨af,haf⟩
            · cases hcall
          obtain ⟨af,haf⟩ := hcg
          obtain ⟨fn,hfn,hname,hbody,_⟩ := (hC.fn g' af hlow haf).out
          obtain ⟨cargs,c1,c2,z1,z2,z3,hrun⟩ := call_opZ I.i7 o (opOf_some hop (by simp)) hf hlow hfn hname hbody
          have hvrs : VRs ρ1 (first ++ ((vv :: (List.map (Opd.ev e) l0)) ++ cap)) cargs.toList := by
            rw [z1]
            exact (z2.mono hle1).append (.cons k3 (z3.mono hle1))
          refine wpIn_upon (cOp_noDefer (opOf_some hop (by simp))) ?_
          rw [hrun w]
          refine ⟨fun h => (by simp [FW,Fence.wide] at h),?_⟩
          refine CallsIn.mono (callsIn_wide.2 (hcf g' _ m1 q m2 hlow hcall cargs ρ1 w hvrs k2.rel fun g hg => let ⟨p,hp1,hp2⟩ := I.i7.glob g hg; ⟨p,hle1 _ _ hp1,hp2⟩)) ?_
          rintro E w' ⟨u,ρ',rfl,hv,hs⟩
          have hback := Stp.back (m := (st pst).m) (by rw [← hX]; exact I.i8) k2 k5 k6 k4 hs hgb
          rw [hm3] at hback
          have hplast : PLe ρ ρ' := hle1.trans (hs.le k2.rel)
          refine go _ _ _ _ _ (inv_next D I ho hn hp h3 (fun k b' hk hk2 => by
            rcases pall k b' hk with c | c | ⟨_,c⟩
            · omega
            · omega
            · omega) hback (by rw [← hq]; exact (I.i7.mono hplast).put hv o.dst hdst) (hh3 h3) ?_ ?_)
          · rw [← hm3,giveBack_next hgb]
            have := I.i14
            rw [hX] at this
            have := hs.next
            omega
          · intro i' j' o' t ho' hf' hP2 g1 g2 hw2 hd2
            have hne : i' ≠ i := by
              rintro rfl
              obtain ⟨_,_,_,_,_,_,_,_,_,y1,_,y3,_⟩ := hP2
              rw [ho] at y1; cases y1
              rw [hop] at y3; cases y3
            have hne2 : pos i' ≠ pos i := fun h => hne (D.inj i' i (lt_of_get ho') hi h)
            obtain ⟨_,_,_,_,_,_,_,_,_,_,_,_,_,_,_,hall⟩ := hP2
            rcases hall i o ho with c | c | ⟨c,_⟩ <;> omega
        · by_cases hfl : fA i = true ∧ ∃ n b s x,opOf P o.op = .append n b s x
          · -- an append that waits for its call
            obtain ⟨hfA,n,b,s,x,hop⟩ := hfl
            have h3 : sortO P o = 3 := by simp [sortO,hop,AOp.sort]
            have hst' := hst
            rw [hop,hfA] at hst'
            simp only [awayOf,cond_true,stepOp] at hst'
            rw [hop] at sag
            simp only [AOp.slots,List.mem_append] at sag
            rw [← ev_congr fun t ht => sag t (.inl ht),← ev_congr fun t ht => sag t (.inr ht)] at hst'
            cases hak : awayOk (st (pos i)).m (s.ev e) (x.ev e)
            · rw [hak] at hst'; cases hst'
            rw [hak] at hst'
            simp only [cond_true] at hst'
            split at hst'
            case h_2 => cases hst'
            rename_i bi bo bl bc bg m1 hap
            simp only [Option.some.injEq,Prod.mk.injEq] at hst'
            obtain ⟨hvv,hmm⟩ := hst'
            obtain ⟨j,hP⟩ := D.fa i hfA
            have hP' := hP
            obtain ⟨_,c0,_,_,_,_,t0,_,_,p1,p2,p3,p4,p5,p6,pall⟩ := hP
            rw [ho] at p1; cases p1
            obtain ⟨hxn,hxs⟩ := canon_sub D T hcs I ho hn hp h3
            have hXM : Stp ρ0 m0 w0 ρ (st (pos i)).m w := I.i8.sub hxn hxs
            obtain ⟨u,w',ρ1,z1,z2,z3,z4,z5⟩ := lend_op I.i7 o (opOf_some hop (by simp)) hXM.rel hak hap
            obtain ⟨hnx,_⟩ := append_away hak hap
            have hvu : VR ρ (v (pos i)) u := by
              rw [← hvv]
              cases z2 <;> exact .away
            refine wpIn_upon (cOp_noDefer (opOf_some hop (by simp))) ?_
            rw [z1]
            have h2all : ∀ k b',ops[k]? = some b' → sortO P b' = 2 → pos k < pos i := fun k b' hk hk2 => by
              have hne : pos k ≠ pos i := fun h => by
                have := D.inj k i (lt_of_get hk) hi h
                subst this
                rw [ho] at hk; cases hk
                rw [h3] at hk2; cases hk2
              rcases pall k b' hk with c | c | ⟨_,c⟩ <;> omega
            refine go _ _ _ _ _ (inv_next D I ho hn hp h3 h2all (by rw [← hmm]; exact hXM.trans z4) ((I.i7).put hvu o.dst hdst) (hh3 h3) ?_ ?_)
            · rw [← hmm]
              have h14 := I.i14
              omega
            · intro i' j' o' t ho' hf' hP2 g1 g2 hw2 hd2
              by_cases hii : i' = i
              · subst hii
                rw [ho] at ho'; cases ho'
                intro n2 b2 sv2 xv2 hv2
                rw [← hvv] at hv2
                cases hv2
                refine ⟨_,m1,ρ1,by rw [← hmm]; exact hap,hXM.trans z3,?_,by rw [← hmm]; exact z5,by rw [← hmm]; exact z3.old,by rw [← hmm,hnx]; omega⟩
                have ht : t < a.tmps.size := hdst t hd2
                rw [hd2]
                simp only [Act.put,Array.getD_eq_getD_getElem?]
                rw [Array.getElem?_setIfInBounds_self_of_lt ht]
                exact z2
              · have hne2 : pos i' ≠ pos i := fun h => hii (D.inj i' i (lt_of_get ho') hi h)
                obtain ⟨_,_,_,_,_,_,_,_,_,_,_,_,_,_,_,hall⟩ := hP2
                rcases hall i o ho with c | c | ⟨c,_⟩ <;> omega
          have hfa : fA i = true → ¬ WantedAt ops st pos i := fun hf => noA (fun n b s x hop => hfl ⟨hf,n,b,s,x,hop⟩) hf
          have haw : awayOf (fA i) (fC i) (opOf P o.op) = opOf P o.op := by
            rcases awayOf_cases (fA i) (fC i) (opOf P o.op) with h | ⟨n,b,s,x,h1,h2,_⟩ | ⟨f',l',h1,_⟩
            · exact h
            · exact absurd ⟨h2,n,b,s,x,h1⟩ hfl
            · exact absurd h1 (hnc _ _)
          rw [haw] at hst
          rw [← step_congr _ _ _ _ sag] at hst
          have hnf : opOf P o.op ≠ .fail := by
            intro hf
            rw [hf] at hst
            simp [stepOp] at hst
          have hc := opOf_some (P := P) (o := o.op) rfl hnf
          rcases sort_cases (opOf P o.op) with h0 | ⟨h1,gg,nn,y,hl⟩ | h2 | ⟨h3,_⟩
          · obtain ⟨_,hgv⟩ := pure_op I.i7 o hc h0 hst
            obtain ⟨u,hu,hv⟩ := hgv w
            refine wpIn_upon (cOp_noDefer hc) ?_
            rw [hu]
            exact go _ _ _ _ _ (still (by simp [sortO,h0]) (by simp [sortO,h0]) u hv)
          · have hb : Nat.beq (sortO P o) 1 = true := by simp [sortO,h1]
            obtain ⟨hb0,hwin⟩ := D.win i o ho h1
            have hst' := hst
            rw [hl,hb] at hst'
            simp only [cond_true] at hst'
            obtain ⟨bk,hbk⟩ : ∃ bk,back i = bk + 1 := ⟨back i - 1,by omega⟩
            rw [hbk] at hst'
            simp only [stepOp] at hst'
            split at hst'
            · rename_i q hq
              simp only [Option.some.injEq,Prod.mk.injEq] at hst'
              obtain ⟨hqv,_⟩ := hst'
              have hle : pst ≤ pos i := Nat.le_of_not_lt fun h => hn (I.i2 i hi h)
              have hpi := D.lt i hi
              obtain ⟨hc1,hc2⟩ := hist_fact D T pst I.i4 (pos i - pst) (by omega)
              rw [show pst + (pos i - pst) = pos i by omega] at hc1 hc2
              have hd : cnt (pos i) - cnt pst < back i := by
                refine Nat.lt_of_not_le fun hge => ?_
                have hlt : cnt pst < cnt (pst + (pos i - pst)) := by rw [show pst + (pos i - pst) = pos i by omega]; omega
                obtain ⟨e',b',k1,k2,k3,k4,k5⟩ := cnt_mono D pst (pos i - pst) (by omega) hlt
                exact I.i3 e' b' k1 k2 k3 (hp e' (hwin e' b' k1 k2 (by omega) (by rw [k5]; exact hge)))
              obtain ⟨_,hall⟩ := loadBack_all _ _ _ _ _ _ _ hq
              obtain ⟨mm,e1,e2⟩ := hall _ (by rw [← hbk]; exact hd)
              rw [hc2] at e1
              cases e1
              rw [hqv] at e2
              obtain ⟨u,hu,hv⟩ := load_op I.i7 o hc hl I.i8.rel (loadAt_sub I.i10 e2)
              refine wpIn_upon (cOp_noDefer hc) ?_
              rw [hu]
              exact go _ _ _ _ _ (still (by simp [sortO,h1]) (by simp [sortO,h1]) u hv)
            · cases hst'
          · have hb : Nat.beq (sortO P o) 2 = true := by simp [sortO,h2]
            rw [hb] at hst
            simp only [cond_true,Option.map_some] at hst
            obtain ⟨c,f,⟨cur,ty,u,hvr,hf,hrun⟩,hvv,hmm⟩ := alloc_op I.i7 o hc h2 hst
            simp only [allocIn] at hvv hmm
            have hceq : c = cs i := by
              have h1 := hcs i o ho h2 hw
              rw [hmm] at h1
              have h3 := congrArg (fun m => m.look (base + rank i)) h1
              simpa [Mem.look_put] using h3
            subst hceq
            have hrk := D.rank_lt i o ho h2
            have hlt : base + rank i < X.next := by have := I.i14; omega
            obtain ⟨q1,q2⟩ := I.i13 i o ho h2 hn
            have hsl := I.i8.slot (cs := cs i) (cur := cur) (ty := ty) q1 (by omega) hlt hvr
            have hv : VR (upd ρ (base + rank i) ⟨w.heap.size,0,cur.size,false,none⟩) (v (pos i)) (u w.heap.size) := by
              rw [hvv]; exact hf _ _ _ _ (upd_same _ _ _)
            have hle : pst ≤ pos i := Nat.le_of_not_lt fun h => hn (I.i2 i hi h)
            refine wpIn_upon (cOp_noDefer hc) ?_
            rw [hrun]
            refine go pst _ (X.put (base + rank i) ⟨cs i,true⟩) _ _ (inv_quiet D I ho hn hp (by simp [sortO,h2]) ((I.i7.mono (upd_le _ q1)).put hv o.dst hdst) hsl rfl ?_ ?_ ?_ ?_ (.inl h2))
            · intro j b hb'
              rw [Mem.look_put,if_neg (by rintro rfl; rw [I.i15 i o ho h2 hle] at hb'; cases hb')]
              exact I.i10 j b hb'
            · intro j b hj hs hor hle' hw'
              rw [Mem.look_put]
              by_cases e' : base + rank j = base + rank i
              · have : j = i := D.rank_inj j i b o hj ho hs h2 (Nat.add_left_cancel e')
                subst this
                rw [if_pos rfl]
              · rw [if_neg e']
                refine I.i11 j b hj hs (hor.resolve_right ?_) hle' hw'
                rintro rfl; exact e' rfl
            · intro j b hb'
              rw [Mem.look_put] at hb'
              by_cases e' : j = base + rank i
              · rw [if_pos e'] at hb'; cases hb'
                exact .inr ⟨h2,hw,e',rfl⟩
              · rw [if_neg e'] at hb'; exact .inl hb'
            · intro j b hj hs hns hne
              have hne' : base + rank j ≠ base + rank i := fun h => hne (D.rank_inj j i b o hj ho hs h2 (Nat.add_left_cancel h))
              obtain ⟨r1,r2⟩ := I.i13 j b hj hs hns
              exact ⟨by rw [upd_ne _ _ hne']; exact r1,by rw [Mem.look_put,if_neg hne']; exact r2⟩
          · obtain ⟨hrel,hnext⟩ := inv_loud D T hcs I ho hn hp h3 hfa
            refine upon_writes (cOp_noDefer hc) (eff_op I.i7 o hc h3 hnc hrel hst) fun u w' ρ' hv hs => ?_
            obtain ⟨X',I'⟩ := hnext ρ' w' (a.put o.dst u) hs ((I.i7.mono (hs.le hrel)).put hv o.dst hdst) (hh3 h3)
            exact go _ _ _ _ _ I'
end Go.Am
