/-
  THE ABSTRACT MACHINE, 14: a region that draws its order: the induction over the order that is drawn.
-/
import Derived.Test.YtoppeojgadbjeaaAm13
set_option linter.unusedVariables false
set_option linter.unusedSimpArgs false
namespace Go.Am
variable [Glo]
variable {P : Program}
section
variable {C : Prog} {n0 : Nat} {ops : Array Oper} {aops : List AOper} {R : Nat} {pos back rank cnt : Nat → Nat} {fA fC : Nat → Bool}
  {base : Nat} {st : Nat → St} {v : Nat → AV}
def PendA (ρ0 : PM) (m0 : Mem) (w0 : World) (ρ : PM) (X : Mem) (a : Act) (w : World) (va : AV) (t : Nat) : Prop :=
  ∀ n b sv xv,va = .away n b sv xv → ∃ vv m1 ρ1,appendAt X n b sv xv = some (vv,m1) ∧ Stp ρ0 m0 w0 ρ1 m1 w ∧ VR ρ1 vv (a.tmps.getD t undef) ∧ Lent ρ X ρ1 m1 sv vv ∧ (∀ j,j < X.next → ρ1 j = ρ j) ∧ X.next < m1.next
structure Inv (P : Program) (ops : Array Oper) (R : Nat) (pos rank : Nat → Nat) (fA : Nat → Bool) (base : Nat) (st : Nat → St) (v : Nat → AV) (cs : Nat → List AV) (ρ0 : PM) (m0 : Mem) (w0 : World)
    (S : Nat → Prop) (pst : Nat) (ρ : PM) (X : Mem) (e : Env) (a : Act) (w : World) : Prop where
  i1 : pst ≤ ops.size
  i2 : ∀ i,i < ops.size → pos i < pst → S i
  i3 : ∀ i o,ops[i]? = some o → sortO P o = 3 → pst ≤ pos i → ¬ S i
  i4 : (st pst).h[0]? = some (st pst).m
  i5 : ∀ i k,S i → need ops i k → S k
  i6 : ∀ t,(∀ j b,ops[j]? = some b → b.dst = some t → S j → e.at t = v (pos j)) ∧ ((∀ j b,ops[j]? = some b → b.dst = some t → ¬ S j) → e.at t = (st 0).e.at t)
  i7 : EnvR P ρ e a
  i8 : Stp ρ0 m0 w0 ρ X w
  i9 : X.next = (st pst).m.next
  i10 : ∀ j b,(st pst).m.look j = some b → X.look j = some b
  i11 : ∀ i o,ops[i]? = some o → sortO P o = 2 → S i → pst ≤ pos i → WantedAt ops st pos i → X.look (base + rank i) = some ⟨cs i,true⟩
  i12 : ∀ j b,X.look j = some b → (st pst).m.look j = some b ∨ ∃ i o,ops[i]? = some o ∧ sortO P o = 2 ∧ S i ∧ pst ≤ pos i ∧ WantedAt ops st pos i ∧ j = base + rank i ∧ b = ⟨cs i,true⟩
  i13 : ∀ i o,ops[i]? = some o → sortO P o = 2 → ¬ S i → ρ (base + rank i) = none ∧ X.look (base + rank i) = none
  i14 : base + R ≤ X.next
  i15 : ∀ i o,ops[i]? = some o → sortO P o = 2 → pst ≤ pos i → (st pst).m.look (base + rank i) = none
  i16 : ∀ i j o t,ops[i]? = some o → fA i = true → Pair P ops pos i j → pos i < pst → pst ≤ pos j → WantedAt ops st pos i → o.dst = some t → X = (st pst).m ∧ PendA ρ0 m0 w0 ρ X a w (v (pos i)) t
variable (D : DF P ops aops R pos back rank cnt fA fC) (T : ∀ p o,aops[p]? = some o → Step1 (callA C n0) base o (st p) (v p) (st (p + 1)))
include D T in
omit [Glo] in
theorem names_agree {S : Nat → Prop} {e : Env} (h5 : ∀ i k,S i → need ops i k → S k)
    (h6 : ∀ t,(∀ j b,ops[j]? = some b → b.dst = some t → S j → e.at t = v (pos j)) ∧ ((∀ j b,ops[j]? = some b → b.dst = some t → ¬ S j) → e.at t = (st 0).e.at t))
    {i : Nat} {o : Oper} (ho : ops[i]? = some o) (hn : ¬ S i) (hp : ∀ k,need ops i k → S k) (t : Nat) (ht : t ∈ namesOf P ops o) : e.at t = (st (pos i)).e.at t := by
  have hi := lt_of_get ho
  obtain ⟨f1,f2⟩ := env_fact D T t (pos i) (Nat.le_of_lt (D.lt i hi))
  obtain ⟨g1,g2⟩ := h6 t
  by_cases hw : ∃ (j : Nat) (b : Oper),ops[j]? = some b ∧ b.dst = some t
  · obtain ⟨j,b,hj,hb⟩ := hw
    have only : ∀ (j' : Nat) (b' : Oper),ops[j']? = some b' → b'.dst = some t → j' = j := fun j' b' hj' hb' => by
      by_cases e' : j' = j
      · exact e'
      · exact absurd hb (D.dist j' j b' b t e' hj' hj hb')
    have both0 : ¬ S j → pos i ≤ pos j → e.at t = (st (pos i)).e.at t := fun h1 h2 => by
      rw [g2 fun j' b' hj' hb' => by rw [only j' b' hj' hb']; exact h1,f2 fun j' b' hj' hb' => by rw [only j' b' hj' hb']; exact h2]
    have hjl := lt_of_get hj
    rcases Nat.lt_trichotomy j i with hlt | heq | hgt
    · rcases D.comp j i b o hlt hj ho with h | ⟨_,h,_⟩
      · rw [g1 j b hj hb (hp j h),f1 j b hj hb (D.bit j i hjl hi h).2]
      · exact absurd ht (h t hb)
    · subst heq; exact both0 hn (Nat.le_refl _)
    · rcases D.comp i j o b hgt ho hj with h | ⟨_,_,h⟩
      · exact both0 (fun hs => hn (h5 j i hs h)) (Nat.le_of_lt (D.bit i j hi hjl h).2)
      · exact absurd ht (h t hb)
  · rw [g2 fun j b hj hb => absurd ⟨j,b,hj,hb⟩ hw,f2 fun j b hj hb => absurd ⟨j,b,hj,hb⟩ hw]
include D in
omit [Glo] in
theorem slots_on {S : Nat → Prop} {e : Env}
    (h6 : ∀ t,(∀ j b,ops[j]? = some b → b.dst = some t → S j → e.at t = v (pos j)) ∧ ((∀ j b,ops[j]? = some b → b.dst = some t → ¬ S j) → e.at t = (st 0).e.at t))
    {i : Nat} {o : Oper} (ho : ops[i]? = some o) (t : Nat) :
    (∀ j b,ops[j]? = some b → b.dst = some t → (S j ∨ j = i) → (putD e o.dst (v (pos i))).at t = v (pos j)) ∧
      ((∀ j b,ops[j]? = some b → b.dst = some t → ¬ (S j ∨ j = i)) → (putD e o.dst (v (pos i))).at t = (st 0).e.at t) := by
  have hat : (putD e o.dst (v (pos i))).at t = if o.dst = some t then v (pos i) else e.at t := by
    cases hd : o.dst with
    | none => simp [putD]
    | some d =>
      simp only [putD,Env.at_set,Option.some.injEq]
      by_cases e' : t = d
      · simp [e']
      · simp [e',Ne.symm e']
  obtain ⟨g1,g2⟩ := h6 t
  refine ⟨fun j b hj hb hs => ?_,fun hall => ?_⟩
  · by_cases e' : j = i
    · subst e'; rw [ho] at hj; cases hj; rw [hat,if_pos hb]
    · rw [hat,if_neg (D.dist j i b o t e' hj ho hb)]
      exact g1 j b hj hb (hs.resolve_right e')
  · rw [hat,if_neg (fun h => hall i o ho h (.inr rfl))]
    exact g2 fun j b hj hb hs => hall j b hj hb (.inl hs)
include D T in
omit [Glo] in
theorem cs_exist : ∃ cs : Nat → List AV,∀ i o,ops[i]? = some o → sortO P o = 2 → WantedAt ops st pos i → (st (pos i + 1)).m = (st (pos i)).m.put (base + rank i) ⟨cs i,true⟩ := by
  have : ∀ i,∃ c,∀ o,ops[i]? = some o → sortO P o = 2 → WantedAt ops st pos i → (st (pos i + 1)).m = (st (pos i)).m.put (base + rank i) ⟨c,true⟩ := by
    intro i
    by_cases h : ∃ o,ops[i]? = some o ∧ sortO P o = 2 ∧ WantedAt ops st pos i
    · obtain ⟨o,ho,h2,hw⟩ := h
      obtain ⟨g,hg,he,hstep⟩ := step_of D T ho
      rcases hstep with ⟨hnw,_⟩ | ⟨_,_,hst⟩
      · exact absurd hw hnw
      · rcases hst with ⟨f,args,g',first,cap,hop,_⟩ | ⟨f,args,g',first,cap,hop,_⟩ | ⟨_,hst,_⟩
        · simp [sortO,hop,AOp.sort] at h2
        · simp [sortO,hop,AOp.sort] at h2
        · rw [awayOf_sort (by have h2' : (opOf P o.op).sort = 2 := h2; omega),show Nat.beq (sortO P o) 2 = true by simpa using h2] at hst
          simp only [cond_true,Option.map_some] at hst
          obtain ⟨c,hc⟩ := alloc_shape h2 hst
          exact ⟨c,fun o' ho' _ _ => hc⟩
    · exact ⟨[],fun o ho h2 hw => absurd ⟨o,ho,h2,hw⟩ h⟩
  exact ⟨fun i => (this i).choose,fun i => (this i).choose_spec⟩
variable {cs : Nat → List AV} (hcs : ∀ i o,ops[i]? = some o → sortO P o = 2 → WantedAt ops st pos i → (st (pos i + 1)).m = (st (pos i)).m.put (base + rank i) ⟨cs i,true⟩)
  {ρ0 : PM} {m0 : Mem} {w0 : World} (hbase : m0.next ≤ base)
include D in
theorem inv_quiet {S : Nat → Prop} {pst : Nat} {ρ ρ' : PM} {X X' : Mem} {e : Env} {a a' : Act} {w w' : World} (I : Inv P ops R pos rank fA base st v cs ρ0 m0 w0 S pst ρ X e a w) {i : Nat} {o : Oper} (ho : ops[i]? = some o)
    (hn : ¬ S i) (hp : ∀ k,need ops i k → S k) (h3 : sortO P o ≠ 3) (hE : EnvR P ρ' (putD e o.dst (v (pos i))) a') (hS : Stp ρ0 m0 w0 ρ' X' w') (hnx : X'.next = X.next)
    (h10 : ∀ j b,(st pst).m.look j = some b → X'.look j = some b)
    (h11 : ∀ j b,ops[j]? = some b → sortO P b = 2 → (S j ∨ j = i) → pst ≤ pos j → WantedAt ops st pos j → X'.look (base + rank j) = some ⟨cs j,true⟩)
    (h12 : ∀ j b,X'.look j = some b → X.look j = some b ∨ (sortO P o = 2 ∧ WantedAt ops st pos i ∧ j = base + rank i ∧ b = ⟨cs i,true⟩))
    (h13 : ∀ j b,ops[j]? = some b → sortO P b = 2 → ¬ S j → j ≠ i → ρ' (base + rank j) = none ∧ X'.look (base + rank j) = none)
    (h16 : sortO P o = 2 ∨ (X' = X ∧ ρ' = ρ ∧ w' = w ∧ ∀ t,o.dst ≠ some t → a'.tmps.getD t undef = a.tmps.getD t undef)) :
    Inv P ops R pos rank fA base st v cs ρ0 m0 w0 (fun k => S k ∨ k = i) pst ρ' X' (putD e o.dst (v (pos i))) a' w' where
  i1 := I.i1
  i2 j hj hlt := .inl (I.i2 j hj hlt)
  i3 j b hj hs hle hor := by
    rcases hor with h | rfl
    · exact I.i3 j b hj hs hle h
    · rw [ho] at hj; cases hj; exact h3 hs
  i4 := I.i4
  i5 j k hj hk := by
    rcases hj with h | rfl
    · exact .inl (I.i5 j k h hk)
    · exact .inl (hp k hk)
  i6 := slots_on D I.i6 ho
  i7 := hE
  i8 := hS
  i9 := hnx.trans I.i9
  i10 := h10
  i11 := h11
  i12 j b hb := by
    rcases h12 j b hb with h | ⟨a1,a2,a3,a4⟩
    · rcases I.i12 j b h with h | ⟨i',o',b1,b2,b3,b4⟩
      · exact .inl h
      · exact .inr ⟨i',o',b1,b2,.inl b3,b4⟩
    · refine .inr ⟨i,o,ho,a1,.inr rfl,?_,a2,a3,a4⟩
      exact Nat.le_of_not_lt fun h => hn (I.i2 i (lt_of_get ho) h)
  i13 j b hj hs hns := h13 j b hj hs (fun h => hns (.inl h)) (fun h => hns (.inr h))
  i14 := by rw [hnx]; exact I.i14
  i15 := I.i15
  i16 i' j' o' t ho' hf hP h1 h2 hw hd := by
    rcases h16 with h2' | ⟨rfl,rfl,rfl,hst⟩
    · obtain ⟨_,_,_,_,_,_,_,_,_,_,_,_,_,_,_,hall⟩ := hP
      rcases hall i o ho with c | c | ⟨_,c⟩
      · omega
      · exact absurd (I.i2 i (lt_of_get ho) (by omega)) hn
      · omega
    · obtain ⟨g1,g2⟩ := I.i16 i' j' o' t ho' hf hP h1 h2 hw hd
      refine ⟨g1,fun n b sv xv hv => ?_⟩
      obtain ⟨vv,m1,ρ1,k1,k2,k3,k4⟩ := g2 n b sv xv hv
      have hii : i ≠ i' := by rintro rfl; exact hn (I.i2 i (lt_of_get ho) h1)
      exact ⟨vv,m1,ρ1,k1,k2,by rw [hst t (D.dist i' i o' o t (Ne.symm hii) ho' ho hd)]; exact k3,k4⟩
include D in
theorem all_ahead {S : Nat → Prop} {pst : Nat} {ρ : PM} {X : Mem} {e : Env} {a : Act} {w : World} (I : Inv P ops R pos rank fA base st v cs ρ0 m0 w0 S pst ρ X e a w) {i : Nat} {o : Oper} (ho : ops[i]? = some o)
    (hn : ¬ S i) (hp : ∀ k,need ops i k → S k) (h3 : sortO P o = 3) : ∀ j,j < ops.size → pos j < pos i → S j := by
  have hi := lt_of_get ho
  -- all that is ahead in the canonical order has been done
  have loud : ∀ j b,ops[j]? = some b → sortO P b = 3 → pos j < pos i → need ops i j := by
    intro j b hj hs hlt
    have hjl := lt_of_get hj
    rcases Nat.lt_trichotomy j i with h | h | h
    · rcases D.comp j i b o h hj ho with h' | ⟨h',_⟩
      · exact h'
      · exact absurd ⟨hs,h3⟩ h'
    · subst h; omega
    · rcases D.comp i j o b h ho hj with h' | ⟨h',_⟩
      · have := (D.bit i j hi hjl h').2; omega
      · exact absurd ⟨h3,hs⟩ h'
  have ahead : ∀ j,j < ops.size → pos j < pos i → S j := by
    intro j hj hlt
    have hjo : ops[j]? = some ops[j] := by simp [hj]
    by_cases hs : sortO P ops[j] = 3
    · exact hp j (loud j _ hjo hs hlt)
    · obtain ⟨e',c,hc,hc3,h1,h2,h4⟩ := D.late j i _ o hjo ho hs h3 hlt
      by_cases h5 : pos e' = pos i
      · have := D.inj e' i (lt_of_get hc) hi h5
        subst this
        exact hp j h4
      · exact I.i5 e' j (hp e' (loud e' c hc hc3 (by omega))) h4
  exact ahead
include D T hcs in
theorem inv_loud {S : Nat → Prop} {pst : Nat} {ρ : PM} {X : Mem} {e : Env} {a : Act} {w : World} (I : Inv P ops R pos rank fA base st v cs ρ0 m0 w0 S pst ρ X e a w) {i : Nat} {o : Oper} (ho : ops[i]? = some o)
    (hn : ¬ S i) (hp : ∀ k,need ops i k → S k) (h3 : sortO P o = 3) (hfa : fA i = true → ¬ WantedAt ops st pos i) :
    Rel ρ (st (pos i)).m w ∧ ∀ (ρ' : PM) (w' : World) (a' : Act),Stp ρ (st (pos i)).m w ρ' (st (pos i + 1)).m w' → EnvR P ρ' (putD e o.dst (v (pos i))) a' → (st (pos i + 1)).h[0]? = some (st (pos i + 1)).m →
      ∃ X',Inv P ops R pos rank fA base st v cs ρ0 m0 w0 (fun k => S k ∨ k = i) (pos i + 1) ρ' X' (putD e o.dst (v (pos i))) a' w' := by
  have hi := lt_of_get ho
  have hpi := D.lt i hi
  have hle : pst ≤ pos i := Nat.le_of_not_lt fun h => hn (I.i2 i hi h)
  have ahead := all_ahead D I ho hn hp h3
  have none3 : ∀ j b,ops[j]? = some b → sortO P b = 3 → pst ≤ pos j → ¬ pos j < pst + (pos i - pst) := fun j b hj hs h1 h2 =>
    I.i3 j b hj hs h1 (ahead j (lt_of_get hj) (by omega))
  obtain ⟨mf1,mf2⟩ := mem_fact D T hcs pst (pos i - pst) (by omega) none3
  rw [show pst + (pos i - pst) = pos i by omega] at mf1 mf2
  have hsub : ∀ j b,(st (pos i)).m.look j = some b → X.look j = some b := by
    intro j b hb
    rcases mf2 j b hb with h | ⟨i',o',h1,h2,h3',h4,h5,rfl,rfl⟩
    · exact I.i10 j b h
    · exact I.i11 i' o' h1 h2 (ahead i' (lt_of_get h1) h4) h3' h5
  have hnx : (st (pos i)).m.next = X.next := by rw [mf1,I.i9]
  have hslot : ∀ i' o',ops[i']? = some o' → sortO P o' = 2 → pos i ≤ pos i' → (st (pos i)).m.look (base + rank i') = none := by
    intro i' o' h1 h2 hle'
    cases hl : (st (pos i)).m.look (base + rank i') with
    | none => rfl
    | some b =>
      rcases mf2 _ b hl with h | ⟨i'',o'',k1,k2,k3,k4,k5,k6,k7⟩
      · rw [I.i15 i' o' h1 h2 (by omega)] at h; cases h
      · have : i' = i'' := D.rank_inj i' i'' o' o'' h1 k1 h2 k2 (by omega)
        subst this; omega
  refine ⟨I.i8.rel.sub hnx hsub,fun ρ' w' a' hS hE hh => ?_⟩
  let c : Nat → Prop := fun i' => ∃ o',ops[i']? = some o' ∧ sortO P o' = 2 ∧ S i' ∧ pos i + 1 ≤ pos i' ∧ WantedAt ops st pos i'
  obtain ⟨X',x1,x2,x3⟩ := puts c (fun i' => base + rank i') (fun i' => ⟨cs i',true⟩) (fun i1 i2 ⟨o1,a1,a2,_⟩ ⟨o2,b1,b2,_⟩ he => D.rank_inj i1 i2 o1 o2 a1 b1 a2 b2 (Nat.add_left_cancel he)) (st (pos i + 1)).m ops.size
  have gone' : ∀ i' o',ops[i']? = some o' → sortO P o' = 2 → pos i ≤ pos i' → (st (pos i + 1)).m.look (base + rank i') = none := fun i' o' h1 h2 h4 =>
    hS.gone _ (by rw [hnx]; have := D.rank_lt i' o' h1 h2; have := I.i14; omega) (hslot i' o' h1 h2 h4)
  have lookX' : ∀ j b,X'.look j = some b → (st (pos i + 1)).m.look j = some b ∨ ∃ i' o',ops[i']? = some o' ∧ sortO P o' = 2 ∧ S i' ∧ pos i + 1 ≤ pos i' ∧ WantedAt ops st pos i' ∧ j = base + rank i' ∧ b = ⟨cs i',true⟩ := by
    intro j b hb
    by_cases hex : ∃ i',i' < ops.size ∧ c i' ∧ base + rank i' = j
    · obtain ⟨i',hlt,⟨o',h1,h2,h4,h5,h6⟩,rfl⟩ := hex
      rw [x2 i' hlt ⟨o',h1,h2,h4,h5,h6⟩] at hb; cases hb
      exact .inr ⟨i',o',h1,h2,h4,h5,h6,rfl,rfl⟩
    · rw [x3 j fun i' hlt hc he => hex ⟨i',hlt,hc,he⟩] at hb
      exact .inl hb
  have hfr : Stp ρ X w ρ' X' w' := frame_rule I.i8.rel hnx hsub hS (fun j b hb => by
      rcases lookX' j b hb with h | ⟨i',o',h1,h2,h4,h5,h6,rfl,rfl⟩
      · exact .inl h
      · exact .inr ⟨hslot i' o' h1 h2 (by omega),I.i11 i' o' h1 h2 h4 (by omega) h6,rfl⟩) x1 (fun j hj hnone => by
      cases hl : X'.look j with
      | none => rfl
      | some b =>
        rcases lookX' j b hl with h | ⟨i',o',h1,h2,h4,h5,h6,rfl,rfl⟩
        · have : (st (pos i)).m.look j = none := by
            cases hm : (st (pos i)).m.look j with
            | none => rfl
            | some b' => rw [hsub j b' hm] at hnone; cases hnone
          rw [hS.gone j (by rw [hnx]; exact hj) this] at h; cases h
        · rw [I.i11 i' o' h1 h2 h4 (by omega) h6] at hnone; cases hnone)
  refine ⟨X',?_⟩
  exact
    { i1 := hpi
      i2 := fun j hj hlt => by
        by_cases h : pos j = pos i
        · exact .inr (D.inj j i hj hi h)
        · exact .inl (ahead j hj (by omega))
      i3 := fun j b hj hs hlt hor => by
        rcases hor with h | rfl
        · exact I.i3 j b hj hs (by omega) h
        · omega
      i4 := hh
      i5 := fun j k hj hk => by
        rcases hj with h | rfl
        · exact .inl (I.i5 j k h hk)
        · exact .inl (hp k hk)
      i6 := slots_on D I.i6 ho
      i7 := hE
      i8 := I.i8.trans hfr
      i9 := x1
      i10 := fun j b hb => by
        by_cases hex : ∃ i',i' < ops.size ∧ c i' ∧ base + rank i' = j
        · obtain ⟨i',hlt,⟨o',h1,h2,h4,h5,h6⟩,rfl⟩ := hex
          rw [gone' i' o' h1 h2 (by omega)] at hb; cases hb
        · rw [x3 j fun i' hlt hc he => hex ⟨i',hlt,hc,he⟩]
          exact hb
      i11 := fun j b hj hs hor hle' hw => by
        rcases hor with h | rfl
        · exact x2 j (lt_of_get hj) ⟨b,hj,hs,h,hle',hw⟩
        · omega
      i12 := fun j b hb => by
        rcases lookX' j b hb with h | ⟨i',o',h1,h2,h4,h5,h6,h7⟩
        · exact .inl h
        · exact .inr ⟨i',o',h1,h2,.inl h4,h5,h6,h7⟩
      i13 := fun j b hj hs hns => by
        have hnj : ¬ S j := fun h => hns (.inl h)
        obtain ⟨q1,q2⟩ := I.i13 j b hj hs hnj
        have hlt : base + rank j < X.next := by have := D.rank_lt j b hj hs; have := I.i14; omega
        refine ⟨by rw [hfr.old _ hlt]; exact q1,hfr.gone _ hlt q2⟩
      i14 := Nat.le_trans I.i14 hfr.next
      i15 := fun j b hj hs hle' => gone' j b hj hs (by omega)
      i16 := fun i' j' o' t ho' hf hP h1 h2 hw hd => by
        by_cases e' : i' = i
        · subst e'
          exact absurd hw (hfa hf)
        · have hne : pos i' ≠ pos i := fun h => e' (D.inj i' i (lt_of_get ho') hi h)
          obtain ⟨_,_,_,_,_,_,_,_,_,_,_,_,_,_,_,hall⟩ := hP
          rcases hall i o ho with c | c | ⟨c,_⟩ <;> omega }
include D T hcs in
theorem canon_sub {S : Nat → Prop} {pst : Nat} {ρ : PM} {X : Mem} {e : Env} {a : Act} {w : World} (I : Inv P ops R pos rank fA base st v cs ρ0 m0 w0 S pst ρ X e a w) {i : Nat} {o : Oper} (ho : ops[i]? = some o)
    (hn : ¬ S i) (hp : ∀ k,need ops i k → S k) (h3 : sortO P o = 3) : (st (pos i)).m.next = X.next ∧ ∀ j b,(st (pos i)).m.look j = some b → X.look j = some b := by
  have hi := lt_of_get ho
  have hpi := D.lt i hi
  have hle : pst ≤ pos i := Nat.le_of_not_lt fun h => hn (I.i2 i hi h)
  have ahead := all_ahead D I ho hn hp h3
  have none3 : ∀ j b,ops[j]? = some b → sortO P b = 3 → pst ≤ pos j → ¬ pos j < pst + (pos i - pst) := fun j b hj hs h1 h2 =>
    I.i3 j b hj hs h1 (ahead j (lt_of_get hj) (by omega))
  obtain ⟨mf1,mf2⟩ := mem_fact D T hcs pst (pos i - pst) (by omega) none3
  rw [show pst + (pos i - pst) = pos i by omega] at mf1 mf2
  refine ⟨by rw [mf1,I.i9],fun j b hb => ?_⟩
  rcases mf2 j b hb with h | ⟨i',o',h1,h2,h3',h4,h5,rfl,rfl⟩
  · exact I.i10 j b h
  · exact I.i11 i' o' h1 h2 (ahead i' (lt_of_get h1) h4) h3' h5
include D in
theorem inv_next {S : Nat → Prop} {pst : Nat} {ρ ρ' : PM} {X : Mem} {e : Env} {a a' : Act} {w w' : World} (I : Inv P ops R pos rank fA base st v cs ρ0 m0 w0 S pst ρ X e a w) {i : Nat} {o : Oper} (ho : ops[i]? = some o)
    (hn : ¬ S i) (hp : ∀ k,need ops i k → S k) (h3 : sortO P o = 3) (h2 : ∀ k b,ops[k]? = some b → sortO P b = 2 → pos k < pos i) (hS : Stp ρ0 m0 w0 ρ' (st (pos i + 1)).m w') (hE : EnvR P ρ' (putD e o.dst (v (pos i))) a')
    (hh : (st (pos i + 1)).h[0]? = some (st (pos i + 1)).m) (hb : base + R ≤ (st (pos i + 1)).m.next)
    (h16 : ∀ i' j' o' t,ops[i']? = some o' → fA i' = true → Pair P ops pos i' j' → pos i' < pos i + 1 → pos i + 1 ≤ pos j' → WantedAt ops st pos i' → o'.dst = some t → PendA ρ0 m0 w0 ρ' (st (pos i + 1)).m a' w' (v (pos i')) t) :
    Inv P ops R pos rank fA base st v cs ρ0 m0 w0 (fun k => S k ∨ k = i) (pos i + 1) ρ' (st (pos i + 1)).m (putD e o.dst (v (pos i))) a' w' := by
  have hi := lt_of_get ho
  have hle : pst ≤ pos i := Nat.le_of_not_lt fun h => hn (I.i2 i hi h)
  have ahead := all_ahead D I ho hn hp h3
  exact
    { i1 := D.lt i hi
      i2 := fun j hj hlt => by
        by_cases h : pos j = pos i
        · exact .inr (D.inj j i hj hi h)
        · exact .inl (ahead j hj (by omega))
      i3 := fun j b hj hs hlt hor => by
        rcases hor with h | rfl
        · exact I.i3 j b hj hs (by omega) h
        · omega
      i4 := hh
      i5 := fun j k hj hk => by
        rcases hj with h | rfl
        · exact .inl (I.i5 j k h hk)
        · exact .inl (hp k hk)
      i6 := slots_on D I.i6 ho
      i7 := hE
      i8 := hS
      i9 := rfl
      i10 := fun j b hb => hb
      i11 := fun j b hj hs hor hle' hw => by have := h2 j b hj hs; omega
      i12 := fun j b hb => .inl hb
      i13 := fun j b hj hs hns => absurd (.inl (ahead j (lt_of_get hj) (h2 j b hj hs))) hns
      i14 := hb
      i15 := fun j b hj hs hle' => by have := h2 j b hj hs; omega
      i16 := fun i' j' o' t ho' hf hP h1 h2 hw hd => ⟨rfl,h16 i' j' o' t ho' hf hP h1 h2 hw hd⟩ }
include D T in
omit [Glo] in
theorem mem_same (p' : Nat) : ∀ d,p' + d ≤ ops.size → (∀ k b,ops[k]? = some b → p' ≤ pos k → pos k < p' + d → sortO P b ≤ 1) → (st (p' + d)).m = (st p').m
  | 0,_,_ => rfl
  | d + 1,hp,hs => by
    have ih := mem_same p' d (by omega) fun k b hk h1 h2 => hs k b hk h1 (by omega)
    obtain ⟨k,b,hk,hpk⟩ := at_pos D (p := p' + d) (by omega)
    have h1 := hs k b hk (by omega) (by omega)
    obtain ⟨g,hg,he,hstep⟩ := step_of D T hk
    rw [hpk] at hstep
    rw [show p' + (d + 1) = p' + d + 1 from rfl,← ih]
    rcases hstep with ⟨_,_,_,hm,_⟩ | ⟨_,_,⟨f,args,g',first,cap,hop,_⟩ | ⟨f,args,g',first,cap,hop,_⟩ | ⟨_,hst,_⟩⟩
    · exact hm
    · simp [sortO,hop,AOp.sort] at h1
    · simp [sortO,hop,AOp.sort] at h1
    · rw [awayOf_sort (by simp only [sortO] at h1; omega)] at hst
      exact still_of_sort (by simp only [sortO] at h1; omega) hst
end
end Go.Am
