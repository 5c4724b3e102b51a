/-
  THE LIST MACHINE, 7: regions.
-/
import Derived.Test.YtoppeojgadbjeaaLm6
set_option linter.unusedVariables false
namespace Go.Am
variable [Glo]
def CallOkL (cl : CallL) (cf : CallF) : Prop := ∀ (g : Nat) (args : List LV) (lm : LMem) (md : Mode) (v : LV) (lm' : LMem),cl g args lm = some (md,v,lm') → ∀ (s : Sit) (aargs : List AV),s.lm = lm → Rel2 s → LRs s args aargs →
  ∃ av am',cf g aargs s.am = some (av,am') ∧ ∃ t : Sit,t.lm = lm' ∧ t.am = am' ∧ Rel2 t ∧ Stp2 s.am.next s t ∧ LR t v av ∧ (md ≠ .W → Still s t fun _ => False)
section
variable {le : LEnv} {ae : Env}
omit [Glo] in
theorem EnvL.put {s : Sit} (h : EnvL s le ae) (d : Option Nat) {v : LV} {a : AV} (hv : LR s v a) : EnvL s (putL le d v) (putD ae d a) := by
  cases d with
  | none => exact h
  | some t =>
    intro n
    simp only [putL,putD,LEnv.at,Env.at,Tr.get_set]
    by_cases e : n = t
    · subst e; simpa using hv
    · rw [if_neg e,show Nat.beq t n = false by cases hb : Nat.beq t n; rfl; exact absurd (by simpa using hb : t = n).symm e]
      exact h n
omit [Glo] in
theorem keep_at : ∀ (ks : List Nat) (le : LEnv) (n : Nat),(le.keep ks).at n = if n ∈ ks then le.at n else .undef
  | [],le,n => by simp [LEnv.keep,LEnv.at]
  | k :: r,le,n => by
    show cond (Nat.beq k n) (le.at k) ((le.keep r).at n) = _
    rw [keep_at r]
    by_cases e : k = n
    · subst e; simp
    · rw [show Nat.beq k n = false by cases hb : Nat.beq k n; rfl; exact absurd (by simpa using hb) e]
      have : n ≠ k := fun c => e c.symm
      simp [this]
omit [Glo] in
theorem EnvL.keep {s : Sit} (h : EnvL s le ae) (ks : List Nat) : EnvL s (le.keep ks) ae := fun n => by
  rw [keep_at]
  split
  · exact h n
  · exact .undef _
structure Inner (lo : Nat) (s0 s : Sit) (le : LEnv) (ae : Env) (h : List Mem) (k : Trk) (rest : List AOper) : Prop where
  rel : Rel2 s
  env : EnvL s le ae
  stp : Stp2 lo s0 s
  low : lo ≤ s.am.next
  pend : ∀ q ∈ slotsOf rest,s.am.look (lo + q) = none ∧ lo + q < s.am.next
  nodup : nodupB (slotsOf rest) = true
  start : k.start = s0.lm.length
  calm : ∀ i b0,s0.lm[i]? = some b0 → k.hit i = false → s.ρ i = s0.ρ i ∧ (∃ b,s.lm[i]? = some b ∧ b.cells = b0.cells) ∧ ∀ am,am = s.am ∨ am ∈ h → am.look (s0.ρ i) = s0.am.look (s0.ρ i)
  old : ∀ b,s0.A b → ∀ am,am = s.am ∨ am ∈ h → am.look b = s0.am.look b
  fresh : ∀ t,k.new.any (Nat.beq t) = false → LR s0 (le.at t) (ae.at t)
  cnt : k.cnt = h.length
  hist : ∀ (d : Nat) (lmd : LMem),k.hist[d]? = some (some lmd) → ∃ sd : Sit,sd.lm = lmd ∧ h[d]? = some sd.am ∧ Rel2 sd ∧ Stp2 lo sd s
theorem Inner.opd0 {lo : Nat} {s0 s : Sit} {h : List Mem} {k : Trk} {rest : List AOper} (I : Inner lo s0 s le ae h k rest) (hg : GOk s0) {x : Opd} (hx : k.fresh x = false) : OpdR s0 le ae x := by
  cases x with
  | t n => exact I.fresh n hx
  | c v => exact LR.evC hg v
omit [Glo] in
theorem any_beq_filter (l : List Nat) (t n : Nat) : (l.filter fun n => !(Nat.beq n t)).any (Nat.beq n) = (l.any (Nat.beq n) && !(Nat.beq n t)) := by
  induction l with
  | nil => rfl
  | cons a r ih =>
    rw [List.filter_cons]
    by_cases e : a = t
    · subst e
      simp only [show (Nat.beq a a) = true by simp,Bool.not_true,Bool.false_eq_true,if_false,ih,List.any_cons]
      cases h1 : Nat.beq n a <;> cases h2 : r.any (Nat.beq n) <;> rfl
    · rw [show Nat.beq a t = false by cases hb : Nat.beq a t; rfl; exact absurd (by simpa using hb) e]
      simp only [Bool.not_false,if_true,List.any_cons,ih]
      by_cases e2 : n = a
      · subst e2
        rw [show Nat.beq n t = false by cases hb : Nat.beq n t; rfl; exact absurd (by simpa using hb) e]
        simp
      · rw [show Nat.beq n a = false by cases hb : Nat.beq n a; rfl; exact absurd (by simpa using hb) e2]
        simp
theorem Inner.next {lo : Nat} {s0 s t : Sit} {h : List Mem} {k : Trk} {o : AOper} {rest : List AOper} (I : Inner lo s0 s le ae h k (o :: rest)) {v : LV} {av : AV} {T : Nat → Prop} (hr : Rel2 t) (hs : Stp2 lo s t) (hv : LR t v av) (hst : Still s t T)
    (hp : Pend s t (o.slot.map (lo + ·))) (k1 : Trk) (hk1 : k1.start = k.start) (hk2 : k1.new = k.new) (hk3 : k1.cnt = k.cnt) (hk4 : k1.hist = k.hist) (hT : ∀ i,k1.hit i = false → k.hit i = false ∧ ¬ T i) (b up : Bool) (hb : b = false → LR s0 v av) (mo : Option LMem) (hmo : ∀ mm,mo = some mm → mm = t.lm) :
    Inner lo s0 t (putL le o.dst v) (putD ae o.dst av) (cond up (t.am :: h) h) ((k1.putNew o.dst b).up up mo) rest where
  rel := hr
  env := (I.env.mono hs.keeps).put _ hv
  stp := I.stp.trans hs
  low := Nat.le_trans I.low hs.nxt
  pend := fun q hq => by
    have hmem : q ∈ slotsOf (o :: rest) := by
      simp only [slotsOf]; split
      · exact List.mem_cons_of_mem _ hq
      · exact hq
    obtain ⟨h1,h2⟩ := I.pend q hmem
    refine ⟨hp _ h2 h1 ?_,Nat.lt_of_lt_of_le h2 hs.nxt⟩
    intro e
    have hn := I.nodup
    cases hsl : o.slot with
    | none => rw [hsl] at e; cases e
    | some q' =>
      rw [hsl] at e
      simp only [Option.map_some,Option.some.injEq] at e
      have : q' = q := by omega
      subst this
      simp only [slotsOf,hsl,nodupB,Bool.and_eq_true,Bool.not_eq_true'] at hn
      have := hn.1
      rw [List.any_eq_false] at this
      exact this q' hq (by simp)
  nodup := by
    have hn := I.nodup
    simp only [slotsOf] at hn
    split at hn
    · simp only [nodupB,Bool.and_eq_true] at hn; exact hn.2
    · exact hn
  start := by
    have := I.start
    show (k1.putNew o.dst b).start = _
    unfold Trk.putNew; split <;> exact hk1.trans this
  calm := fun i b0 hb0 hh => by
    have hh1 : k1.hit i = false := by
      unfold Trk.up Trk.putNew at hh
      split at hh <;> exact hh
    obtain ⟨hh2,hT'⟩ := hT i hh1
    obtain ⟨c1,⟨bc,c2,c3⟩,c4⟩ := I.calm i b0 hb0 hh2
    obtain ⟨d1,d2,b',d3,d4⟩ := hst i bc c2 hT'
    refine ⟨d1.trans c1,⟨b',d3,d4.trans c3⟩,fun am ham => ?_⟩
    have ht : t.am.look (s0.ρ i) = s0.am.look (s0.ρ i) := by rw [← c1,d2,c1]; exact c4 _ (.inl rfl)
    rcases ham with rfl | ham
    · exact ht
    · cases up
      · exact c4 _ (.inr ham)
      · rcases List.mem_cons.1 ham with rfl | ham
        · exact ht
        · exact c4 _ (.inr ham)
  old := fun x hx am ham => by
    have ht : t.am.look x = s0.am.look x := ((hs.A x (I.stp.A x hx).1).2).trans (I.old x hx _ (.inl rfl))
    rcases ham with rfl | ham
    · exact ht
    · cases up
      · exact I.old x hx _ (.inr ham)
      · rcases List.mem_cons.1 ham with rfl | ham
        · exact ht
        · exact I.old x hx _ (.inr ham)
  fresh := fun n hn => by
    have hn : (k1.putNew o.dst b).new.any (Nat.beq n) = false := hn
    cases hd : o.dst with
    | none =>
      rw [hd] at hn
      simp only [Trk.putNew,hk2] at hn
      exact I.fresh n hn
    | some d =>
      rw [hd] at hn
      simp only [Trk.putNew,hk2] at hn
      simp only [putL,putD,LEnv.at,Env.at,Tr.get_set]
      by_cases e : n = d
      · subst e
        cases b
        · simpa using hb rfl
        · simp at hn
      · rw [if_neg e,show Nat.beq d n = false by cases hb : Nat.beq d n; rfl; exact absurd (by simpa using hb : d = n).symm e]
        simp only [cond_false]
        refine I.fresh n ?_
        cases b
        · simp only [cond_false,any_beq_filter] at hn
          rw [show Nat.beq n d = false by cases hb : Nat.beq n d; rfl; exact absurd (by simpa using hb) e] at hn
          simpa using hn
        · simp only [cond_true,List.any_cons] at hn
          rw [show Nat.beq n d = false by cases hb : Nat.beq n d; rfl; exact absurd (by simpa using hb) e] at hn
          simpa using hn
  cnt := by
    have := I.cnt
    have e : (k1.putNew o.dst b).cnt = k.cnt := by unfold Trk.putNew; split <;> exact hk3
    show cond up ((k1.putNew o.dst b).cnt + 1) (k1.putNew o.dst b).cnt = _
    rw [e,this]
    cases up <;> rfl
  hist := fun d lmd hd => by
    have e : (k1.putNew o.dst b).hist = k.hist := by unfold Trk.putNew; split <;> exact hk4
    have hd : (cond up (mo :: (k1.putNew o.dst b).hist) (k1.putNew o.dst b).hist)[d]? = some (some lmd) := hd
    rw [e] at hd
    have old : ∀ d,k.hist[d]? = some (some lmd) → ∃ sd : Sit,sd.lm = lmd ∧ h[d]? = some sd.am ∧ Rel2 sd ∧ Stp2 lo sd t := fun d hd => by
      obtain ⟨sd,h1,h2,h3,h4⟩ := I.hist d lmd hd
      exact ⟨sd,h1,h2,h3,h4.trans hs⟩
    cases up
    · exact old d hd
    · cases d with
      | zero =>
        simp only [cond_true,List.getElem?_cons_zero,Option.some.injEq] at hd
        exact ⟨t,(hmo _ hd).symm,rfl,hr,Stp2.refl _ _⟩
      | succ d =>
        simp only [cond_true,List.getElem?_cons_succ] at hd
        obtain ⟨sd,h1,h2,h3⟩ := old d hd
        exact ⟨sd,h1,by simpa using h2,h3⟩
omit [Glo] in
theorem want_ok {s : Sit} (hE : EnvL s le ae) {g : Option (Nat × Bool)} {b : Bool} (h : wantL le g = some b) : wanted ae g = b := by
  cases g with
  | none => simp only [wantL,Option.some.injEq] at h; exact h
  | some p =>
    obtain ⟨t,w⟩ := p
    simp only [wantL] at h
    split at h
    · rename_i q hq
      have := hE t
      rw [hq] at this
      simp only [Option.some.injEq] at h
      simp only [wanted,this.bool_inv]
      exact h
    · rename_i q hq
      have := hE t
      rw [hq] at this
      obtain ⟨x',e,_⟩ := this.tup_inv
      simp only [Option.some.injEq] at h
      simp only [wanted,e]
      exact h
    · cases h
omit [Glo] in
theorem loadBack_any {g : Bool} {n : Nat} {a ax : AV} : ∀ (k : Nat) (h : List Mem) (v : Option AV),(v = none ∧ 0 < k ∨ v = some ax) → k ≤ h.length → (∀ am ∈ h,loadAt am g n a = some ax) → loadBack g n a k h v = some ax
  | 0,h,v,hv,_,_ => by rcases hv with ⟨_,c⟩ | rfl; omega; rfl
  | k + 1,[],v,_,hk,_ => by simp at hk
  | k + 1,m :: h,v,hv,hk,hm => by
    rcases hv with ⟨rfl,_⟩ | rfl
    · simp only [loadBack,hm m (by simp)]
      exact loadBack_any k h _ (.inr rfl) (by simpa using hk) fun am ham => hm am (by simp [ham])
    · simp only [loadBack,hm m (by simp),AV.beq_refl,cond_true]
      exact loadBack_any k h _ (.inr rfl) (by simpa using hk) fun am ham => hm am (by simp [ham])
theorem Inner.load {lo : Nat} {s0 s : Sit} {h : List Mem} {k : Trk} {rest : List AOper} (I : Inner lo s0 s le ae h k rest) (h0 : Rel2 s0) {g : Bool} {n : Nat} {a : Opd} {x : LV} (hc : k.calm a (evL le a) = true) (hx : loadL s.lm g n (evL le a) = some x) :
    ∃ ax,(∀ am,am = s.am ∨ am ∈ h → loadAt am g n (a.ev ae) = some ax) ∧ LR s0 x ax := by
  have hE := I.env.opd I.rel.glo a
  unfold OpdR at hE
  unfold Trk.calm at hc
  split at hc
  · rename_i i o L heq
    rw [heq] at hE hx
    have hh : k.hit i = false := by simpa using hc
    have hlt : i < s0.lm.length := by
      have := I.start
      unfold Trk.hit at hh
      simp only [Bool.or_eq_false_iff] at hh
      have h2 := hh.2.1
      cases hb : Nat.ble k.start i
      · have : ¬ k.start ≤ i := fun c => by rw [show Nat.ble k.start i = true by simpa using c] at hb; cases hb
        omega
      · rw [hb] at h2; cases h2
    obtain ⟨c1,⟨bc,c2,c3⟩,c4⟩ := I.calm i _ (List.getElem?_eq_getElem hlt) hh
    obtain ⟨b,e,hle,hk⟩ := hE.ptr_inv
    rw [e]
    have hok : okL s.lm i L := by
      simp only [loadL,c2] at hx
      cases hq : Nat.beq bc.cells.length L <;> rw [hq] at hx
      · cases hx
      · exact ⟨bc,c2,by simpa using hq⟩
    have hb : b = s0.ρ i := (hk hok).trans c1
    subst hb
    have hx0 : loadL s0.lm g n (.ptr i o L) = some x := by
      simp only [loadL,c2] at hx
      simp only [loadL,List.getElem?_eq_getElem hlt,← c3]
      exact hx
    obtain ⟨b2,h21,h22⟩ := hok
    rw [c2] at h21
    cases h21
    have hr0 : LR s0 (.ptr i o L) (.ptr (s0.ρ i) o) := .ptr ⟨s0.lm[i],List.getElem?_eq_getElem hlt,by rw [← c3]; omega⟩ fun _ => rfl
    obtain ⟨ax,h3,h4⟩ := load_ok h0 hr0 hx0
    refine ⟨ax,fun am ham => ?_,h4⟩
    simp only [loadAt] at h3 ⊢
    rw [c4 am ham]
    exact h3
  · rename_i cs o heq
    have hf : k.fresh a = false := by simpa using hc
    have h1 := I.opd0 h0.glo hf
    unfold OpdR at h1
    rw [heq] at h1 hx
    obtain ⟨b,p,blk,e,g1,g2,g3,g4,g5⟩ := h1.elt_inv
    rw [e] at h1 ⊢
    obtain ⟨ax,h3,h4⟩ := load_ok h0 h1 (show loadL s0.lm g n (.elt cs o) = some x from hx)
    refine ⟨ax,fun am ham => ?_,h4⟩
    simp only [loadAt] at h3 ⊢
    rw [I.old b g1 am ham]
    exact h3
  · cases hc
omit [Glo] in
theorem loadBack_some {g : Bool} {n : Nat} {a ax : AV} : ∀ (k : Nat) (h : List Mem) (v : Option AV),(v = none ∧ 0 < k ∨ v = some ax) → (∀ d,d < k → ∃ m,h[d]? = some m ∧ loadAt m g n a = some ax) → loadBack g n a k h v = some ax
  | 0,h,v,hv,_ => by rcases hv with ⟨_,c⟩ | rfl; omega; rfl
  | k + 1,h,v,hv,hm => by
    obtain ⟨m,h1,h2⟩ := hm 0 (Nat.succ_pos _)
    cases h with
    | nil => simp at h1
    | cons m0 r =>
      simp at h1
      subst h1
      have hr : ∀ d,d < k → ∃ m,r[d]? = some m ∧ loadAt m g n a = some ax := fun d hd => by
        obtain ⟨m,q1,q2⟩ := hm (d + 1) (by omega)
        exact ⟨m,by simpa using q1,q2⟩
      rcases hv with ⟨rfl,_⟩ | rfl
      · simp only [loadBack,h2]
        exact loadBack_some k r _ (.inr rfl) hr
      · simp only [loadBack,h2,AV.beq_refl,cond_true]
        exact loadBack_some k r _ (.inr rfl) hr
theorem firm_load {lo : Nat} {s0 s : Sit} {h : List Mem} {k : Trk} {rest : List AOper} (I : Inner lo s0 s le ae h k rest) {g : Bool} {n back : Nat} {a : Opd} {v : LV} {lm' : LMem} (hf : firmLoad s.lm g n (evL le a) back k.hist = true)
    (hst : stepL le s.lm (.load g n a) = some (v,lm')) : ∃ ax,(∀ sl,stepOp ae s.am h back sl (.load g n a) = some (ax,s.am)) ∧ LR s v ax := by
  have hE := I.env.opd I.rel.glo a
  unfold OpdR at hE
  simp only [stepL] at hst
  split at hst
  case h_2 => cases hst
  rename_i w hw
  simp only [Option.some.injEq,Prod.mk.injEq] at hst
  obtain ⟨rfl,rfl⟩ := hst
  obtain ⟨ax,hax,hr⟩ := load_ok I.rel hE hw
  unfold firmLoad at hf
  split at hf
  case h_2 => cases hf
  rename_i i o L heq
  rw [heq] at hw hE hf
  rw [hw] at hf
  simp only [Bool.and_eq_true] at hf
  obtain ⟨hfw,hall⟩ := hf
  obtain ⟨b,hb,_,hbk⟩ := hE.ptr_inv
  have hok : ∀ {m : LMem} {w' : LV},loadL m g n (.ptr i o L) = some w' → okL m i L := fun {m w'} h => by
    simp only [loadL] at h
    split at h
    · rename_i bl hbl
      cases hq : Nat.beq bl.cells.length L <;> rw [hq] at h
      · cases h
      · exact ⟨bl,hbl,by simpa using hq⟩
    · cases h
  have hbs : b = s.ρ i := hbk (hok hw)
  subst hbs
  rw [hb] at hax
  refine ⟨ax,fun sl => ?_,hr⟩
  simp only [stepOp]
  rw [hb]
  cases back with
  | zero => simp only [hax]
  | succ bk =>
    have key : ∀ (q : Nat) (hs : List (Option LMem)) (d0 : Nat),(∀ d,d < q → hs[d]? = k.hist[d0 + d]?) → firmAll g n (.ptr i o L) w q hs = true → ∀ d,d < q → ∃ m,h[d0 + d]? = some m ∧ loadAt m g n (.ptr (s.ρ i) o) = some ax := by
      intro q
      induction q with
      | zero => intro hs d0 _ _ d hd; omega
      | succ q ih =>
        intro hs d0 heqs hfa d hd
        cases hs with
        | nil => simp [firmAll] at hfa
        | cons o0 r =>
          cases o0 with
          | none => simp [firmAll] at hfa
          | some lmd =>
            simp only [firmAll,Bool.and_eq_true] at hfa
            obtain ⟨hf0,hfr⟩ := hfa
            cases d with
            | zero =>
              have h0 := heqs 0 (by omega)
              simp only [List.getElem?_cons_zero,Nat.add_zero] at h0
              obtain ⟨sd,e1,e2,e3,e4⟩ := I.hist d0 lmd h0.symm
              subst e1
              split at hf0
              case h_2 => cases hf0
              rename_i v' hv'
              simp only [Bool.and_eq_true] at hf0
              obtain rfl := sameF_eq hf0.1
              have hokd := hok hv'
              obtain ⟨bd,hbd,hLd⟩ := hokd
              obtain ⟨bs,hbs,hLs⟩ := hok hw
              obtain ⟨b',q1,_,q3⟩ := e4.blk i bd hbd
              rw [hbs] at q1; cases q1
              have hρ : s.ρ i = sd.ρ i := q3 (by omega)
              obtain ⟨ax',k1,k2⟩ := load_ok e3 (show LR sd (.ptr i o L) (.ptr (sd.ρ i) o) from .ptr ⟨bd,hbd,by omega⟩ fun _ => rfl) hv'
              refine ⟨sd.am,by simpa using e2,?_⟩
              rw [hρ,k1,firm_det e4 k2 hr hf0.2 hfw]
            | succ d =>
              have := ih r (d0 + 1) (fun d hd => by
                have := heqs (d + 1) (by omega)
                simp only [List.getElem?_cons_succ] at this
                rw [this,show d0 + 1 + d = d0 + (d + 1) by omega]) hfr d (by omega)
              rw [show d0 + (d + 1) = d0 + 1 + d by omega]
              exact this
    have := key (bk + 1) k.hist 0 (fun d _ => by rw [Nat.zero_add]) hall
    simp only [Nat.zero_add] at this
    simp only [loadBack_some (bk + 1) h none (.inl ⟨rfl,Nat.succ_pos _⟩) this]
theorem hit_touch {k : Trk} {op : AOp} {i : Nat} (h : (k.touch le op).hit i = false) : k.hit i = false ∧ ¬ touched le op i := by
  have key : ∀ j,(⟨k.start,k.all,j :: k.tch,k.new,k.cnt,k.hist⟩ : Trk).hit i = false → k.hit i = false ∧ i ≠ j := by
    intro j h
    unfold Trk.hit at h ⊢
    simp only [List.any_cons,Bool.or_eq_false_iff] at h ⊢
    refine ⟨⟨h.1,h.2.1,h.2.2.2⟩,?_⟩
    rintro rfl
    have := h.2.2.1
    simp at this
  cases op <;> simp only [Trk.touch,touched] at h ⊢ <;> first | exact ⟨h,fun c => c⟩ | skip
  case store n a x =>
    split at h
    · rename_i j o L he
      obtain ⟨h1,h2⟩ := key _ h
      refine ⟨h1,?_⟩
      rintro ⟨o',L',e⟩
      rw [he] at e; cases e; exact h2 rfl
    · rename_i hn
      exact ⟨h,fun ⟨o',L',e⟩ => hn _ _ _ e⟩
  case append n b a x =>
    split at h
    · rename_i j o n' cap g sz L he
      obtain ⟨h1,h2⟩ := key _ h
      refine ⟨h1,?_⟩
      rintro ⟨_,_,_,_,_,_,e⟩
      rw [he] at e; cases e; exact h2 rfl
    · rename_i hn
      exact ⟨h,fun ⟨_,_,_,_,_,_,e⟩ => hn _ _ _ _ _ _ _ e⟩
  case copy n a x =>
    split at h
    · rename_i j o n' cap g sz L he
      obtain ⟨h1,h2⟩ := key _ h
      refine ⟨h1,?_⟩
      rintro ⟨_,_,_,_,_,_,e⟩
      rw [he] at e; cases e; exact h2 rfl
    · rename_i hn
      exact ⟨h,fun ⟨_,_,_,_,_,_,e⟩ => hn _ _ _ _ _ _ _ e⟩
  case clr n a =>
    split at h
    · rename_i j o n' cap g sz L he
      obtain ⟨h1,h2⟩ := key _ h
      refine ⟨h1,?_⟩
      rintro ⟨_,_,_,_,_,_,e⟩
      rw [he] at e; cases e; exact h2 rfl
    · rename_i hn
      exact ⟨h,fun ⟨_,_,_,_,_,_,e⟩ => hn _ _ _ _ _ _ _ e⟩
  case clrs n a =>
    split at h
    · rename_i j o n' cap g sz L he
      obtain ⟨h1,h2⟩ := key _ h
      refine ⟨h1,?_⟩
      rintro ⟨_,_,_,_,_,_,e⟩
      rw [he] at e; cases e; exact h2 rfl
    · rename_i hn
      exact ⟨h,fun ⟨_,_,_,_,_,_,e⟩ => hn _ _ _ _ _ _ _ e⟩
  case putM a y x =>
    split at h
    · rename_i j he
      obtain ⟨h1,h2⟩ := key _ h
      refine ⟨h1,?_⟩
      intro e
      rw [he] at e; cases e; exact h2 rfl
    · rename_i hn
      exact ⟨h,fun e => hn _ e⟩
theorem touch_same (k : Trk) (op : AOp) : (k.touch le op).start = k.start ∧ (k.touch le op).new = k.new ∧ (k.touch le op).cnt = k.cnt ∧ (k.touch le op).hist = k.hist := by
  cases op <;> simp only [Trk.touch,and_self] <;> split <;> simp
def sitBack (t : Sit) (i : Nat) (b0 : LBlk) (b a : Nat) (bi : Blk) : Sit := ⟨t.lm.set i b0,(t.am.put b ⟨[],false⟩).put a bi,fun j => if j = i then a else t.ρ j,t.A⟩
theorem branch_sl {cl : CallL} {cf : CallF} (hcall : CallOkL cl cf) {s : Sit} (hs : Rel2 s) {g n b i o n0 cap0 g0 sz L : Nat} {xv : LV} {first cap r : List LV} {first' cap' r' : List AV} {sv' xv' : AV} (h1 : LRs s first first') (h2 : LRs s cap cap') (hs1 : LR s (.sl i o n0 cap0 g0 sz L) sv') (hx1 : LR s xv xv') (h3 : LRs s r r') {q : LV} {md : Mode} {v : LV} {lm1 lm2 lm3 : LMem}
    (hg : Nat.blt g 100000 = true) (hk : awayL s.lm (.sl i o n0 cap0 g0 sz L) xv = true) (happ : appendL s.lm n b (.sl i o n0 cap0 g0 sz L) xv = some (v,lm1)) (hcl : cl g (first ++ ((v :: r) ++ cap)) lm1 = some (md,q,lm2)) (hgb : giveBackL s.lm lm1 lm2 (.sl i o n0 cap0 g0 sz L) = some lm3) (hpl : q.plain = true) :
    ∃ aq am3,branchA cf g first' cap' (.away n b sv' xv' :: r') s.am = some (aq,am3) ∧ ∃ u : Sit,u.lm = lm3 ∧ u.am = am3 ∧ Rel2 u ∧ Stp2 s.am.next s u ∧ LR u q aq := by
  have hak := away_ok hs hs1 hx1 hk
  obtain ⟨av,am1,hap,_⟩ := append_ok (lo := s.am.next) hs (Nat.le_refl _) hs1 hx1 happ none
  unfold giveBackL at hgb
  simp only at hgb
  split at hgb
  case h_2 => cases hgb
  rename_i b0 b1 b2 hb0 hb1 hb2
  cases hcc : (b2.own && (sameInts b2.cells b1.cells && lm2.all fun b => LV.noRefs i b.cells))
  · rw [hcc] at hgb; cases hgb
  rw [hcc] at hgb
  simp only [cond_true,Option.some.injEq] at hgb
  subst hgb
  simp only [Bool.and_eq_true] at hcc
  obtain ⟨hown2,heq,hnr⟩ := hcc
  have heq : eqIntsL b2.cells b1.cells = some true := by
    unfold sameInts at heq
    split at heq
    · rename_i z hz; rw [hz,heq]
    · cases heq
  -- what is known of the list
  have hk' := hk
  unfold awayL at hk'
  split at hk'
  case h_2 => cases hk'
  rename_i kx hkx
  simp only [Bool.and_eq_true,hb0,Nat.beq_eq,Nat.blt_eq,Bool.not_eq_true'] at hk'
  obtain ⟨hkk0,hL,rfl,hnL,hn0,hcp,hg0⟩ := hk'
  have hg0 : g0 ≠ 0 := by rintro rfl; simp at hg0
  obtain ⟨p,rfl,_,hpp,_⟩ := hs1.sl_inv
  obtain rfl := hpp ⟨b0,hb0,hL⟩
  obtain ⟨bl0,news',k1,k2,_,k4,rfl,k6,k7,kx',k8,k9⟩ := append_moved hak hg0 hap
  obtain ⟨ab0,z1,z2,z3,_⟩ := hs.blk i b0 hb0
  rw [k1] at z1; cases z1
  have hkx' : kx' = kx := by have := len_ok hx1 hkx; rw [k8] at this; exact Option.some.inj this
  subst hkx'
  -- the longer list
  have happ' := happ
  unfold appendL at happ'
  split at happ'
  case h_2 => cases happ'
  rename_i olds m0 news kk hc1 hc2
  obtain ⟨nw,y1,y2,y3,hnl⟩ := contents_ok hs hx1 hc2
  rw [k7] at y1; cases y1
  rw [k8] at y2; cases y2
  have hold : olds = b0.cells ∧ m0 = n0 := by
    simp only [contents,hb0] at hc1
    rw [hL,hnL,Nat.zero_add,show Nat.beq L L = true by simp,show Nat.ble L L = true by simp] at hc1
    simp only [Bool.and_self,cond_true,Option.some.injEq,Prod.mk.injEq,List.drop_zero] at hc1
    rw [← hL,List.take_length] at hc1
    exact ⟨hc1.1.symm,hc1.2.symm⟩
  obtain ⟨rfl,rfl⟩ := hold
  rw [hkk0] at happ'
  simp only [cond_false] at happ'
  cases hroom : (Nat.ble ((m0 + kx') * b) roomMost && Nat.ble (m0 + kx') roomMost && news.all LV.scalar)
  · rw [hroom] at happ'; cases happ'
  rw [hroom] at happ'
  simp only [cond_true,hb0] at happ'
  rw [show Nat.ble (m0 + kx') cap0 = false by rw [← Bool.not_eq_true,Nat.ble_eq]; omega] at happ'
  simp only [cond_false] at happ'
  rw [show Nat.beq g0 0 = false by rw [← Bool.not_eq_true,Nat.beq_eq]; exact hg0] at happ'
  simp only [cond_false] at happ'
  cases hq : (b0.own && Nat.beq g0 g0 && Nat.blt 0 L)
  · rw [hq] at happ'; cases happ'
  rw [hq] at happ'
  simp only [cond_true] at happ'
  have hLlt : L < (m0 + kx') * g0 := by
    have hk1 : 0 < kx' := by
      cases kx' with
      | zero => simp at hkk0
      | succ k => omega
    have : m0 * g0 < (m0 + kx') * g0 := Nat.mul_lt_mul_of_pos_right (by omega) (by omega)
    omega
  rw [show Nat.blt L ((m0 + kx') * g0) = true by simpa [Nat.blt_eq] using hLlt] at happ'
  simp only [cond_true,Option.some.injEq,Prod.mk.injEq] at happ'
  obtain ⟨rfl,rfl⟩ := happ'
  simp only [Bool.and_eq_true,Nat.blt_eq] at hq
  obtain ⟨⟨hown0,_⟩,hL0⟩ := hq
  have hiL : i < s.lm.length := (List.getElem?_eq_some_iff.1 hb0).1
  rw [getElem?_set' _ _ _ _ hiL,if_pos rfl] at hb1
  cases hb1
  have hlen1 : (b0.cells ++ news).length = (m0 + kx') * g0 := by rw [List.length_append,hL,hnl,Nat.add_mul,hnL]
  have hlc : LRs s (b0.cells ++ news) (bl0.cells ++ news') := z2.append y3
  obtain ⟨r1,st1⟩ := grow_ok (lo := s.am.next) hs hb0 hown0 (by omega) (cs := b0.cells ++ news) (by rw [hlen1,hL]; exact hLlt) hlc (Nat.le_refl _)
  rw [← k6] at r1 st1
  generalize ht1 : sitGrow s i (b0.cells ++ news) am1 s.am.next = t1 at r1 st1
  have hl1 : t1.lm = s.lm.set i ⟨b0.cells ++ news,true⟩ := by rw [← ht1]; rfl
  have ha1 : t1.am = am1 := by rw [← ht1]; rfl
  have hρ1 : ∀ j,t1.ρ j = if j = i then s.am.next else s.ρ j := fun j => by rw [← ht1]; rfl
  have hA1 : t1.A = s.A := by rw [← ht1]; rfl
  have hv1 : LR t1 (.sl i 0 (m0 + kx') (m0 + kx') g0 g0 ((m0 + kx') * g0)) av := by
    rw [k9]
    refine .sl (leL_eq (b := ⟨b0.cells ++ news,true⟩) (by rw [hl1,getElem?_set' _ _ _ _ hiL,if_pos rfl]) hlen1) (fun _ => by rw [hρ1,if_pos rfl]) (.inr rfl)
  have hargs : LRs t1 (first ++ ((.sl i 0 (m0 + kx') (m0 + kx') g0 g0 ((m0 + kx') * g0) :: r) ++ cap)) (first' ++ ((av :: r') ++ cap')) := (h1.mono st1.keeps).append ((LRs.cons hv1 (h3.mono st1.keeps)).append (h2.mono st1.keeps))
  obtain ⟨aq,am2,hcf,t2,e3,e4,hr2,st2,hq2,_⟩ := hcall g _ _ md q lm2 hcl t1 _ hl1 r1 hargs
  rw [ha1] at hcf
  subst e3 e4
  have st12 : Stp2 s.am.next s t2 := st1.trans (st2.weak (by rw [ha1,k6]; show s.am.next ≤ s.am.next + 1; omega))
  have hb1 : t1.lm[i]? = some ⟨b0.cells ++ news,true⟩ := by rw [hl1,getElem?_set' _ _ _ _ hiL,if_pos rfl]
  obtain ⟨ab1,w1,w2,w3,_⟩ := r1.blk i _ hb1
  obtain ⟨ab2,x1,x2,x3,_⟩ := hr2.blk i b2 hb2
  obtain ⟨hc21,hc21'⟩ := eqInts_det heq x2 w2
  have hρ2 : t2.ρ i = s.am.next := by
    obtain ⟨b2',q1,_,q3⟩ := st2.blk i _ hb1
    rw [hb2] at q1; cases q1
    rw [q3 (by rw [hc21]),hρ1,if_pos rfl]
  rw [hρ1,if_pos rfl] at w1
  rw [hρ2] at x1 x3
  have han : s.ρ i < s.am.next := hs.next _ _ k1
  have hnA : ¬ s.A (s.ρ i) := (z3 hown0).2
  have hn1 : t1.am.next = s.am.next + 1 := by rw [ha1,k6]; rfl
  have hlook1 : t1.am.look (s.ρ i) = some ⟨[],false⟩ := by
    rw [ha1,k6,Mem.look_alloc,Mem.next_put,if_neg (by omega),Mem.look_put,if_pos rfl]
  have hnOwn1 : ¬ Owned t1 (s.ρ i) := by
    rintro ⟨k,bk,hkb,hko,hke⟩
    rw [hl1,getElem?_set' _ _ _ _ hiL] at hkb
    rw [hρ1] at hke
    by_cases hki : k = i
    · rw [if_pos hki] at hke; omega
    · rw [if_neg hki] at hkb hke
      exact hki (hs.inj i k b0 bk hb0 hown0 hkb hke.symm).symm
  have hlook2 : t2.am.look (s.ρ i) = some ⟨[],false⟩ := by
    rw [st2.frame _ (by omega) hnOwn1]; exact hlook1
  have hnA2 : ¬ t2.A (s.ρ i) := fun c => by
    rcases st2.newA _ c with c | c | c
    · rw [hA1] at c; exact hnA c
    · omega
    · exact hnOwn1 c
  have hnB2 : ¬ t2.A s.am.next := (x3 hown2).2
  have hplace : ∀ k bk,t2.lm[k]? = some bk → t2.ρ k ≠ s.ρ i := by
    intro k bk hkb e
    cases hko : bk.own with
    | false =>
      obtain ⟨_,_,_,_,h4⟩ := hr2.blk k bk hkb
      have := h4 hko
      rw [e] at this
      exact hnA2 this
    | true =>
      rcases st2.newOwn _ ⟨k,bk,hkb,hko,e⟩ with c | c
      · exact hnOwn1 c
      · omega
  have hi2 : i < t2.lm.length := (List.getElem?_eq_some_iff.1 hb2).1
  -- the abstract machine's answer
  have hAM : branchA cf g first' cap' (.away g0 b (.slice (s.ρ i) 0 m0 cap0 g0) xv' :: r') s.am = some (aq,(t2.am.put s.am.next ⟨[],false⟩).put (s.ρ i) bl0) := by
    simp only [branchA,hg,cond_true,hap]
    rw [hcf]
    simp only
    have hg : giveBack s.am am1 t2.am (.slice (s.ρ i) 0 m0 cap0 g0) av = some ((t2.am.put s.am.next ⟨[],false⟩).put (s.ρ i) bl0) := by
      rw [k9]
      simp only [giveBack]
      rw [ha1] at hlook1 w1
      simp only [hlook1,k1,w1,hlook2,x1]
      rw [show (ab2.own && (AV.beqs ab2.cells ab1.cells && (Nat.beq 0 0 && Nat.beq (m0 * g0) bl0.cells.length))) = true by
        rw [(x3 hown2).1,hc21',AV.beqs_refl,k4]; simp]
      rfl
    rw [hg]
  refine ⟨aq,_,hAM,sitBack t2 i b0 s.am.next (s.ρ i) bl0,rfl,rfl,?_⟩
  generalize hu : sitBack t2 i b0 s.am.next (s.ρ i) bl0 = u
  have ulm : ∀ j,u.lm[j]? = if j = i then some b0 else t2.lm[j]? := fun j => by rw [← hu]; exact getElem?_set' _ _ _ _ hi2
  have ulook : ∀ j,u.am.look j = if j = s.ρ i then some bl0 else if j = s.am.next then some ⟨[],false⟩ else t2.am.look j := fun j => by
    rw [← hu]
    show ((t2.am.put s.am.next ⟨[],false⟩).put (s.ρ i) bl0).look j = _
    rw [Mem.look_put,Mem.look_put]
  have uρ : ∀ j,u.ρ j = if j = i then s.ρ i else t2.ρ j := fun j => by rw [← hu]; rfl
  have uA : u.A = t2.A := by rw [← hu]; rfl
  have unx : u.am.next = t2.am.next := by rw [← hu]; rfl
  have hnx2 : s.am.next < t2.am.next := by have := st2.nxt; omega
  have uAl : ∀ x,t2.A x → u.A x ∧ u.am.look x = t2.am.look x := fun x hx => by
    refine ⟨by rw [uA]; exact hx,?_⟩
    rw [ulook,if_neg (show ¬ x = s.ρ i from fun e => hnA2 (by rw [← e]; exact hx)),if_neg (show ¬ x = s.am.next from fun e => hnB2 (by rw [← e]; exact hx))]
  -- from the beginning to the end
  have keep : Keeps s u := by
    refine ⟨fun j bj hj => ?_,fun x hx => ?_⟩
    · by_cases e : j = i
      · subst e
        rw [hb0] at hj; cases hj
        exact ⟨b0,by rw [ulm,if_pos rfl],Evo.refl _,fun _ => by rw [uρ,if_pos rfl]⟩
      · obtain ⟨b',q1,q2,q3⟩ := st12.blk j bj hj
        exact ⟨b',by rw [ulm,if_neg e]; exact q1,q2,fun hl => by rw [uρ,if_neg e]; exact q3 hl⟩
    · obtain ⟨c1,c2⟩ := st12.A x hx
      exact ⟨(uAl x c1).1,(uAl x c1).2.trans c2⟩
  have hnoref : ∀ (k : Nat) (bk : LBlk),t2.lm[k]? = some bk → LV.noRefs i bk.cells = true := fun k bk hkb => by
    rw [List.all_eq_true] at hnr
    exact hnr bk (List.mem_of_getElem? hkb)
  have hne : ∀ k bk,t2.lm[k]? = some bk → k ≠ i → t2.ρ k ≠ s.am.next := fun k bk hkb hki e =>
    hki (hr2.inj i k b2 bk hb2 hown2 hkb (by rw [hρ2,e])).symm
  refine ⟨⟨fun j bj hj => ?_,fun j k bj bk hj hoj hkb e => ?_,fun x hx => ?_,fun x ab h => ?_,hs.glo.mono keep.A⟩,⟨by rw [unx]; omega,keep.blk,keep.A,fun x hx hox => ?_,fun x hx => ?_,fun x hx => ?_⟩,hq2.plain hpl⟩
  · rw [ulm] at hj
    by_cases e : j = i
    · rw [if_pos e] at hj; cases hj
      subst e
      refine ⟨bl0,by rw [uρ,if_pos rfl,ulook,if_pos rfl],z2.mono keep,fun _ => ⟨k2,by rw [uρ,if_pos rfl,uA]; exact hnA2⟩,fun hf => by rw [hown0] at hf; cases hf⟩
    · rw [if_neg e] at hj
      obtain ⟨ab,q1,q2,q3,q4⟩ := hr2.blk j bj hj
      refine ⟨ab,?_,?_,?_,?_⟩
      · rw [uρ,if_neg e,ulook,if_neg (hplace j bj hj),if_neg (hne j bj hj e)]; exact q1
      · exact q2.noRef (fun k hk => by rw [ulm,if_neg hk]) (fun k hk => by rw [uρ,if_neg hk]) uAl (hnoref j bj hj)
      · rw [uρ,if_neg e,uA]; exact q3
      · rw [uρ,if_neg e,uA]; exact q4
  · rw [ulm] at hj hkb
    rw [uρ,uρ] at e
    by_cases ej : j = i
    · by_cases ek : k = i
      · omega
      · rw [if_neg ek] at hkb
        rw [if_pos ej,if_neg ek] at e
        exact absurd e.symm (hplace k bk hkb)
    · rw [if_neg ej] at hj
      by_cases ek : k = i
      · rw [if_neg ej,if_pos ek] at e
        exact absurd e (hplace j bj hj)
      · rw [if_neg ek] at hkb
        rw [if_neg ej,if_neg ek] at e
        exact hr2.inj j k bj bk hj hoj hkb e
  · rw [uA] at hx
    obtain ⟨ab,hab⟩ := hr2.A x hx
    exact ⟨ab,by rw [(uAl x hx).2]; exact hab⟩
  · rw [unx]
    rw [ulook] at h
    by_cases c1 : x = s.ρ i
    · omega
    · rw [if_neg c1] at h
      by_cases c2 : x = s.am.next
      · omega
      · rw [if_neg c2] at h; exact hr2.next _ _ h
  · rw [ulook,if_neg (show ¬ x = s.ρ i from fun e => hox ⟨i,b0,hb0,hown0,e.symm⟩),if_neg (by omega)]
    exact st12.frame x hx hox
  · rw [uA] at hx
    exact st12.newA x hx
  · obtain ⟨j,bj,hj,hoj,rfl⟩ := hx
    rw [ulm] at hj
    rw [uρ]
    by_cases e : j = i
    · rw [if_pos e]; exact .inl ⟨i,b0,hb0,hown0,rfl⟩
    · rw [if_neg e] at hj
      rw [if_neg e]
      exact st12.newOwn _ ⟨j,bj,hj,hoj,rfl⟩
theorem branch_ok {cl : CallL} {cf : CallF} (hcall : CallOkL cl cf) {s : Sit} (hs : Rel2 s) {g : Nat} {first cap args : List LV} {first' cap' args' : List AV} (h1 : LRs s first first') (h2 : LRs s cap cap') (h3 : LRs s args args') {q : LV} {lm3 : LMem}
    (h : branchL cl g first cap args s.lm = some (q,lm3)) : ∃ aq am3,branchA cf g first' cap' args' s.am = some (aq,am3) ∧ ∃ u : Sit,u.lm = lm3 ∧ u.am = am3 ∧ Rel2 u ∧ Stp2 s.am.next s u ∧ LR u q aq := by
  unfold branchL at h
  split at h
  case h_2 => cases h
  rename_i n b sv xv r
  cases hk0 : (Nat.blt g 100000 && awayL s.lm sv xv)
  · rw [hk0] at h; cases h
  rw [hk0] at h
  simp only [cond_true] at h
  obtain ⟨hg,hk⟩ := Bool.and_eq_true_iff.1 hk0
  split at h
  case h_2 => cases h
  rename_i v lm1 happ
  split at h
  case h_2 => cases h
  rename_i md q' lm2 hcl
  split at h
  case h_2 => cases h
  rename_i lm3' hgb
  cases hpl : q'.plain
  · rw [hpl] at h; cases h
  rw [hpl] at h
  simp only [cond_true,Option.some.injEq,Prod.mk.injEq] at h
  obtain ⟨rfl,rfl⟩ := h
  cases h3 with
  | cons h3a h3r =>
  cases h3a with
  | @away _ _ _ _ sv' xv' hs1 hx1 =>
  by_cases hsl : ∃ i o n0 cap0 g0 sz L,sv = .sl i o n0 cap0 g0 sz L
  · obtain ⟨i,o,n0,cap0,g0,sz,L,rfl⟩ := hsl
    exact branch_sl hcall hs h1 h2 hs1 hx1 h3r hg hk happ hcl hgb hpl
  have hak := away_ok hs hs1 hx1 hk
  obtain ⟨av,am1,hap,t1,e1,e2,hr1,hst1,hv1,_⟩ := append_ok (lo := s.am.next) hs (Nat.le_refl _) hs1 hx1 happ none
  subst e1 e2
  have hargs : LRs t1 (first ++ ((v :: r) ++ cap)) (first' ++ ((av :: _) ++ cap')) := (h1.mono hst1.keeps).append ((LRs.cons hv1 (h3r.mono hst1.keeps)).append (h2.mono hst1.keeps))
  obtain ⟨aq,am2,hcf,t2,e3,e4,hr2,hst2,hq2,_⟩ := hcall g _ _ md q' lm2 hcl t1 _ rfl hr1 hargs
  subst e3 e4
  have hgb' : lm3' = t2.lm := by
    unfold giveBackL at hgb
    split at hgb
    · exact absurd ⟨_,_,_,_,_,_,_,rfl⟩ hsl
    · exact (Option.some.inj hgb).symm
  have hA : giveBack s.am t1.am t2.am sv' av = some t2.am := by
    unfold awayL at hk
    split at hk
    case h_2 => cases hk
    simp only [Bool.and_eq_true] at hk
    obtain ⟨_,hk⟩ := hk
    cases sv with
    | sl => exact absurd ⟨_,_,_,_,_,_,_,rfl⟩ hsl
    | lst nl ex sz m cs =>
      rcases hs1.lst_inv with ⟨_,rfl,_⟩ | ⟨rfl,b0,o,cp,g0,blk,rfl,hA0,hb0,hle,_,_,_,_,hex⟩
      · rfl
      · simp only [Bool.or_eq_true,Bool.and_eq_true,Nat.blt_eq,Bool.false_eq_true,false_or] at hk
        have hb1 : t1.am.look b0 = some blk := (hst1.A b0 hA0).2.trans hb0
        have hpos : 0 < m * sz := Nat.mul_pos hk.2.1 hk.2.2
        simp only [giveBack,hb1]
        split
        · rename_i hcc
          simp only [Option.some.injEq] at hcc
          subst hcc
          simp only [List.length_nil] at hle
          omega
        · rfl
    | _ => cases hk
  exact ⟨aq,t2.am,by simp only [branchA,hg,cond_true,hap,hcf,hA],t2,hgb'.symm,rfl,hr2,hst1.trans (hst2.weak hst1.nxt),hq2⟩
theorem run_ok {cl : CallL} {cf : CallF} (hcall : CallOkL cl cf) {lo : Nat} {s0 : Sit} (h0 : Rel2 s0) : ∀ (ops : List AOper) {s : Sit} {le le' : LEnv} {ae : Env} {h : List Mem} {k : Trk} {lm' : LMem},Inner lo s0 s le ae h k ops → runL cl ops le s.lm k = some (le',lm') →
    ∃ ae' am',runOps cf lo ops ae s.am h = some (ae',am') ∧ ∃ t : Sit,t.lm = lm' ∧ t.am = am' ∧ Rel2 t ∧ Stp2 lo s0 t ∧ EnvL t le' ae'
  | [],s,le,le',ae,h,k,lm',I,hr => by
    simp only [runL,Option.some.injEq,Prod.mk.injEq] at hr
    obtain ⟨rfl,rfl⟩ := hr
    exact ⟨ae,s.am,rfl,s,rfl,rfl,I.rel,I.stp,I.env⟩
  | o :: rest, s, le,le',ae,h,k,lm',I,hr => by
    simp only [runL] at hr
    split at hr
    · cases hr
    · rename_i hw
      rw [runOps_not (want_ok I.env hw)]
      have I' := I.next (t := s) (v := .tup []) (av := .undef) (T := fun _ => False) I.rel (Stp2.refl _ _) (.tup .nil) (Still.refl _ _) (fun r _ h _ => h) k rfl rfl rfl rfl (fun i h => ⟨h,fun c => c⟩) true o.eff (fun h => by cases h) none (fun _ h => by cases h)
      exact run_ok hcall h0 rest I' hr
    · rename_i hw
      have hw := want_ok I.env hw
      split at hr
      · rename_i f args hop
        rw [runOps_call hw hop]
        split at hr
        · rename_i g first cap hf
          have hfe := I.env.opd I.rel.glo f
          unfold OpdR at hfe
          rw [hf] at hfe
          obtain ⟨x',y',e,hx,hy⟩ := hfe.func_inv
          simp only [e]
          split at hr
          · rename_i md v lm2 hcl
            have hargs : LRs s (first ++ (args.map (evL le) ++ cap)) (x' ++ (args.map (Opd.ev ae) ++ y')) := hx.append ((LRs.map args fun x _ => I.env.opd I.rel.glo x).append hy)
            obtain ⟨av,am',h1,t,h2,h3,h4,h5,h6,h7⟩ := hcall g _ _ md v lm2 hcl s _ rfl I.rel hargs
            simp only [h1]
            subst h2 h3
            have hpend : Pend s t (o.slot.map (lo + ·)) := fun r hr hn _ => by
              rw [h5.frame r hr]
              · exact hn
              · rintro ⟨i,blk,hi,_,rfl⟩
                obtain ⟨ab,hab,_⟩ := I.rel.blk i blk hi
                rw [hn] at hab; cases hab
            by_cases hmd : md = .W
            · subst hmd
              have I' := I.next (t := t) (v := v) (av := av) (T := fun _ => True) h4 (h5.weak I.low) h6 (fun i b _ hn => absurd trivial hn) hpend ⟨k.start,true,k.tch,k.new,k.cnt,k.hist⟩ rfl rfl rfl rfl (fun i hh => by unfold Trk.hit at hh; simp at hh) true true (fun h => by cases h) (some t.lm) (fun _ h => (Option.some.inj h).symm)
              exact run_ok hcall h0 rest I' hr
            · have I' := I.next (t := t) (v := v) (av := av) (T := fun _ => False) h4 (h5.weak I.low) h6 (h7 hmd) hpend k rfl rfl rfl rfl (fun i h => ⟨h,fun c => c⟩) true true (fun h => by cases h) (some t.lm) (fun _ h => (Option.some.inj h).symm)
              refine run_ok hcall h0 rest I' ?_
              cases md <;> first | exact hr | exact absurd rfl hmd
          · cases hr
        · cases hr
      · rename_i f args hop
        rw [runOps_callZ hw hop]
        split at hr
        · rename_i g first cap hf
          have hfe := I.env.opd I.rel.glo f
          unfold OpdR at hfe
          rw [hf] at hfe
          obtain ⟨x',y',e,hx,hy⟩ := hfe.func_inv
          simp only [e]
          split at hr
          · rename_i v lm2 hcl
            obtain ⟨av,am',h1,t,h2,h3,h4,h5,h6⟩ := branch_ok hcall I.rel hx hy (LRs.map args fun x _ => I.env.opd I.rel.glo x) hcl
            simp only [h1]
            subst h2 h3
            have hpend : Pend s t (o.slot.map (lo + ·)) := fun r hr hn _ => by
              rw [h5.frame r hr]
              · exact hn
              · rintro ⟨i,blk,hi,_,rfl⟩
                obtain ⟨ab,hab,_⟩ := I.rel.blk i blk hi
                rw [hn] at hab; cases hab
            have I' := I.next (t := t) (v := v) (av := av) (T := fun _ => True) h4 (h5.weak I.low) h6 (fun i b _ hn => absurd trivial hn) hpend ⟨k.start,true,k.tch,k.new,k.cnt,k.hist⟩ rfl rfl rfl rfl (fun i hh => by unfold Trk.hit at hh; simp at hh) true true (fun h => by cases h) (some t.lm) (fun _ h => (Option.some.inj h).symm)
            exact run_ok hcall h0 rest I' hr
          · cases hr
        · cases hr
      · rename_i hn hz
        rw [runOps_op hw (fun f args e => hn f args e) (fun f args e => hz f args e)]
        cases hc : loadFine k le s.lm o.back o.op with
        | false => rw [hc] at hr; cases hr
        | true =>
        rw [hc] at hr
        simp only [cond_true] at hr
        split at hr
        · rename_i v lm2 hst
          have hslot : SlotOk lo s (o.slot.map (lo + ·)) := by
            refine ⟨I.low,fun r hr => ?_⟩
            obtain ⟨q,hq,rfl⟩ := Option.map_eq_some_iff.1 hr
            obtain ⟨p1,p2⟩ := I.pend q (by simp [slotsOf,hq])
            exact ⟨p1,Nat.le_add_right _ _,p2⟩
          have hts := touch_same (le := le) k o.op
          -- a load that was turned round
          by_cases hld : ∃ g n a,o.op = .load g n a ∧ k.calm a (evL le a) = true
          · obtain ⟨g,n,a,hop,hcalm⟩ := hld
            rw [hop] at hst hc
            simp only [loadFine] at hc
            simp only [stepL] at hst
            split at hst
            · rename_i w hw'
              simp only [Option.some.injEq,Prod.mk.injEq] at hst
              obtain ⟨rfl,rfl⟩ := hst
              obtain ⟨ax,hall,hax⟩ := I.load h0 hcalm hw'
              have hstep : stepOp ae s.am h o.back (o.slot.map (lo + ·)) o.op = some (ax,s.am) := by
                rw [hop]
                simp only [stepOp]
                cases hb : o.back with
                | zero => simp only [hall _ (.inl rfl)]
                | succ b =>
                  have hcnt : o.back ≤ h.length := by
                    rw [← I.cnt]
                    simp only [Bool.or_eq_true,Bool.and_eq_true] at hc
                    rcases hc with (c | c) | c
                    · rw [hb] at c; simp at c
                    · simpa using c.2
                    · rw [hcalm] at c; simp at c
                  rw [hb] at hcnt
                  simp only [loadBack_any (b + 1) h none (.inl ⟨rfl,Nat.succ_pos _⟩) hcnt fun am ham => hall am (.inr ham)]
              simp only [hstep]
              have hg : k.gives le o.op = false := by rw [hop]; simp [Trk.gives,hcalm]
              have ht0 : k.touch le o.op = k := by rw [hop]; rfl
              have I' := I.next (t := s) (v := w) (av := ax) (T := fun _ => False) I.rel (Stp2.refl _ _) (hax.mono I.stp.keeps) (Still.refl _ _) (fun r _ h _ => h) k rfl rfl rfl rfl (fun i h => ⟨h,fun c => c⟩) false o.eff (fun _ => hax) none (fun _ h => by cases h)
              refine run_ok hcall h0 rest I' ?_
              rw [ht0,hg] at hr
              exact hr
            · cases hst
          · by_cases hfl : ∃ g n a,o.op = .load g n a ∧ firmLoad s.lm g n (evL le a) o.back k.hist = true
            · -- it was the same in all the last memories
              obtain ⟨g,n,a,hop,hfirm⟩ := hfl
              have hg : k.gives le o.op = true := by
                rw [hop]
                simp only [Trk.gives,Bool.not_eq_true']
                cases hcc : k.calm a (evL le a)
                · rfl
                · exact absurd ⟨g,n,a,hop,hcc⟩ hld
              obtain ⟨ax,hstep,hax⟩ := firm_load I hfirm (by rw [hop] at hst; exact hst)
              obtain ⟨hvv,hlm⟩ : True ∧ lm2 = s.lm := by
                refine ⟨trivial,?_⟩
                rw [hop] at hst
                simp only [stepL] at hst
                split at hst
                · simp only [Option.some.injEq,Prod.mk.injEq] at hst; exact hst.2.symm
                · cases hst
              subst hlm
              have hstep' : stepOp ae s.am h o.back (o.slot.map (lo + ·)) o.op = some (ax,s.am) := by rw [hop]; exact hstep _
              simp only [hstep']
              have ht0 : k.touch le o.op = k := by rw [hop]; rfl
              have I' := I.next (t := s) (v := v) (av := ax) (T := fun _ => False) I.rel (Stp2.refl _ _) hax (Still.refl _ _) (fun r _ h _ => h) k rfl rfl rfl rfl (fun i h => ⟨h,fun c => c⟩) true o.eff (fun h => by cases h) none (fun _ h => by cases h)
              refine run_ok hcall h0 rest I' ?_
              rw [ht0,hg] at hr
              exact hr
            obtain ⟨av,am',h1,t,h2,h3,h4,h5,h6,h7,h8⟩ := step_ok I.rel I.env hslot hst h o.back (fun g n a hop => by
              rw [hop] at hc
              simp only [loadFine,Bool.or_eq_true,Bool.and_eq_true] at hc
              rcases hc with (c | c) | c
              · simpa using c
              · exact absurd ⟨g,n,a,hop,c.1⟩ hld
              · exact absurd ⟨g,n,a,hop,c.2⟩ hfl)
            subst h2 h3
            simp only [h1]
            have I' := I.next (t := t) (v := v) (av := av) (T := touched le o.op) h4 h5 h6 h7 h8 (k.touch le o.op) hts.1 hts.2.1 hts.2.2.1 hts.2.2.2 (fun i hh => hit_touch hh) (k.gives le o.op) o.eff (fun hg => by
              have hnl : ∀ g n a,o.op ≠ .load g n a := fun g n a hop => by
                rw [hop] at hg
                simp only [Trk.gives,Bool.not_eq_false'] at hg
                exact hld ⟨g,n,a,hop,hg⟩
              have : ∃ l,opdsOf o.op = some l ∧ l.any k.fresh = false := by
                generalize o.op = op at hg hnl
                cases op <;> first | exact absurd rfl (hnl _ _ _) | (simp only [Trk.gives,opdsOf,reduceCtorEq] at hg; done) | exact ⟨_,rfl,hg⟩
              obtain ⟨l,hl,hf⟩ := this
              obtain ⟨e,av',g1,g2⟩ := pure_ok (s := s0) hl hnl (fun x hx => I.opd0 h0.glo (by rw [List.any_eq_false] at hf; simpa using hf x hx)) hst s.am h o.back (o.slot.map (lo + ·))
              rw [h1] at g1
              simp only [Option.some.injEq,Prod.mk.injEq] at g1
              rw [g1.1]
              exact g2) none (fun _ h => by cases h)
            exact run_ok hcall h0 rest I' hr
        · cases hr
end
end Go.Am
