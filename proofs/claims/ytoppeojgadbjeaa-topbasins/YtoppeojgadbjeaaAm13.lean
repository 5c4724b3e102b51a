/-
  THE ABSTRACT MACHINE, 13: a region that draws its order, met in every order.
-/
import Derived.Test.YtoppeojgadbjeaaAm12
set_option linter.unusedVariables false
set_option linter.unusedSimpArgs false
namespace Go.Am
variable [Glo]
variable {P : Program}
omit [Glo] in
theorem alloc_shape {e : Env} {m m' : Mem} {h : List Mem} {bk r : Nat} {x : AOp} {v : AV} (hs : x.sort = 2) (he : stepOp e m h bk (some r) x = some (v,m')) : ∃ cs,m' = m.put r ⟨cs,true⟩ := by
  cases x <;> simp [AOp.sort] at hs <;> simp only [stepOp,allocIn] at he
  · simp only [Option.some.injEq,Prod.mk.injEq] at he; exact ⟨_,he.2.symm⟩
  · simp only [Option.some.injEq,Prod.mk.injEq] at he; exact ⟨_,he.2.symm⟩
  · split at he
    · simp only [Option.some.injEq,Prod.mk.injEq] at he; exact ⟨_,he.2.symm⟩
    · cases he
  · split at he
    · simp only [Bool.cond_eq_ite] at he
      split at he
      · simp only [Option.some.injEq,Prod.mk.injEq] at he; exact ⟨_,he.2.symm⟩
      · cases he
    · cases he
omit [Glo] in
theorem loadAt_sub {m X : Mem} {g : Bool} {n : Nat} {x v : AV} (hs : ∀ j b,m.look j = some b → X.look j = some b) (h : loadAt m g n x = some v) : loadAt X g n x = some v := by
  cases x <;> simp only [loadAt] at h ⊢ <;> first | (cases h; done) | skip
  split at h
  · rename_i b hb; rw [hs _ b hb]; exact h
  · cases h
omit [Glo] in
theorem puts (c : Nat → Prop) (sl : Nat → Nat) (bl : Nat → Blk) (hinj : ∀ i j,c i → c j → sl i = sl j → i = j) (M : Mem) : ∀ k : Nat,∃ X : Mem,X.next = M.next ∧ (∀ i,i < k → c i → X.look (sl i) = some (bl i)) ∧
    (∀ j,(∀ i,i < k → c i → sl i ≠ j) → X.look j = M.look j)
  | 0 => ⟨M,rfl,fun i hi => absurd hi (Nat.not_lt_zero _),fun _ _ => rfl⟩
  | k + 1 => by
    obtain ⟨X,h1,h2,h3⟩ := puts c sl bl hinj M k
    by_cases hc : c k
    · refine ⟨X.put (sl k) (bl k),h1,fun i hi hci => ?_,fun j hj => ?_⟩
      · rw [Mem.look_put]
        by_cases e : sl i = sl k
        · rw [if_pos e,hinj i k hci hc e]
        · rw [if_neg e]; exact h2 i (by have : i ≠ k := by rintro rfl; exact e rfl
                                        omega) hci
      · rw [Mem.look_put,if_neg (fun e => hj k (Nat.lt_succ_self k) hc e.symm)]
        exact h3 j fun i hi hci => hj i (by omega) hci
    · refine ⟨X, h1, fun i hi hci => h2 i (by have : i ≠ k := by rintro rfl; exact hc hci
                                              omega) hci,fun j hj => h3 j fun i hi hci => hj i (by omega) hci⟩
section
variable {C : Prog} {n0 : Nat} {ops : Array Oper} {aops : List AOper} {R : Nat} {pos back rank cnt : Nat → Nat} {fA fC : Nat → Bool} (D : DF P ops aops R pos back rank cnt fA fC)
  {base : Nat} {st : Nat → St} {v : Nat → AV} (T : ∀ p o,aops[p]? = some o → Step1 (callA C n0) base o (st p) (v p) (st (p + 1)))
def WantedAt (ops : Array Oper) (st : Nat → St) (pos : Nat → Nat) (i : Nat) : Prop := ∃ o g,ops[i]? = some o ∧ guardOf ops o.guard = some g ∧ wanted (st (pos i)).e g = true
include D T in
omit [Glo] in
theorem step_of {i : Nat} {o : Oper} (ho : ops[i]? = some o) : ∃ g,guardOf ops o.guard = some g ∧ (st (pos i + 1)).e = putD (st (pos i)).e o.dst (v (pos i)) ∧
    ((¬ WantedAt ops st pos i ∧ wanted (st (pos i)).e g = false ∧ v (pos i) = .undef ∧ (st (pos i + 1)).m = (st (pos i)).m ∧ (st (pos i + 1)).h = cond (Nat.beq (sortO P o) 3) ((st (pos i)).m :: (st (pos i)).h) (st (pos i)).h) ∨
     (WantedAt ops st pos i ∧ wanted (st (pos i)).e g = true ∧
      ((∃ f args g' first cap,opOf P o.op = .call f args ∧ f.ev (st (pos i)).e = .func g' first cap ∧ callA C n0 g' (first ++ (args.map (Opd.ev (st (pos i)).e) ++ cap)) (st (pos i)).m = some (v (pos i),(st (pos i + 1)).m) ∧ (st (pos i + 1)).h = (st (pos i + 1)).m :: (st (pos i)).h) ∨
       (∃ f args g' first cap,opOf P o.op = .call f args ∧ fC i = true ∧ f.ev (st (pos i)).e = .func g' first cap ∧ branchA (callA C n0) g' first cap (args.map (Opd.ev (st (pos i)).e)) (st (pos i)).m = some (v (pos i),(st (pos i + 1)).m) ∧ (st (pos i + 1)).h = (st (pos i + 1)).m :: (st (pos i)).h) ∨
       ((∀ f args,opOf P o.op ≠ .call f args) ∧ stepOp (st (pos i)).e (st (pos i)).m (st (pos i)).h (cond (Nat.beq (sortO P o) 1) (back i) 0) ((cond (Nat.beq (sortO P o) 2) (some (rank i)) none).map (base + ·)) (awayOf (fA i) (fC i) (opOf P o.op)) = some (v (pos i),(st (pos i + 1)).m) ∧
        (st (pos i + 1)).h = cond (Nat.beq (sortO P o) 3) ((st (pos i + 1)).m :: (st (pos i)).h) (st (pos i)).h)))) := by
  obtain ⟨g,hg,ha⟩ := D.at_ i o ho
  obtain ⟨h1,h2⟩ := T _ _ ha
  refine ⟨g,hg,h1,?_⟩
  rcases h2 with ⟨a1,a2,a3,a4⟩ | ⟨a1,a2⟩
  · refine .inl ⟨?_,a1,a2,a3,a4⟩
    rintro ⟨o',g',ho',hg',hw⟩
    rw [ho] at ho'; cases ho'
    rw [hg] at hg'; cases hg'
    simp only at a1
    rw [a1] at hw; cases hw
  · refine .inr ⟨⟨o,g,ho,hg,a1⟩,a1,?_⟩
    have noZ := opOf_noZ (P := P) o.op
    rcases a2 with ⟨f,args,g',first,cap,hop,b1,b2,b3⟩ | ⟨f,args,g',first,cap,hop,b1,b2,b3⟩ | ⟨hn,b1,b2⟩
    · simp only at hop
      rcases awayOf_cases (fA i) (fC i) (opOf P o.op) with h | ⟨_,_,_,_,_,_,h⟩ | ⟨_,_,_,_,h⟩
      · rw [h] at hop; exact .inl ⟨f,args,g',first,cap,hop,b1,b2,b3⟩
      · rw [h] at hop; cases hop
      · rw [h] at hop; cases hop
    · simp only at hop
      rcases awayOf_cases (fA i) (fC i) (opOf P o.op) with h | ⟨_,_,_,_,_,_,h⟩ | ⟨f',l',h1,h2,h⟩
      · rw [h] at hop; exact absurd hop (noZ.1 _ _)
      · rw [h] at hop; cases hop
      · rw [h] at hop; cases hop
        exact .inr (.inl ⟨_,_,g',first,cap,h1,h2,b1,b2,b3⟩)
    · refine .inr (.inr ⟨fun f args he => ?_,b1,b2⟩)
      rcases awayOf_cases (fA i) (fC i) (opOf P o.op) with h | ⟨_,_,_,_,h1,_,_⟩ | ⟨f',l',h1,h2,h⟩
      · exact hn f args (by simp only; rw [h,he])
      · rw [he] at h1; cases h1
      · simp only at b1
        rw [h] at b1
        simp [stepOp] at b1
include D in
omit [Glo] in
theorem at_pos {p : Nat} (hp : p < ops.size) : ∃ i o,ops[i]? = some o ∧ pos i = p := by
  obtain ⟨i,hi,e⟩ := D.onto p hp
  exact ⟨i,ops[i],by simp [hi],e⟩
omit [Glo] in
theorem lt_of_get {i : Nat} {o : Oper} (ho : ops[i]? = some o) : i < ops.size := (Array.getElem?_eq_some_iff.1 ho).1
include D T in
omit [Glo] in
theorem env_fact (t : Nat) : ∀ p,p ≤ ops.size → (∀ j b,ops[j]? = some b → b.dst = some t → pos j < p → (st p).e.at t = v (pos j)) ∧
    ((∀ j b,ops[j]? = some b → b.dst = some t → p ≤ pos j) → (st p).e.at t = (st 0).e.at t)
  | 0,_ => ⟨fun j b _ _ h => absurd h (Nat.not_lt_zero _),fun _ => rfl⟩
  | p + 1,hp => by
    obtain ⟨ih1,ih2⟩ := env_fact t p (by omega)
    obtain ⟨i,o,ho,hpi⟩ := at_pos D (p := p) (by omega)
    obtain ⟨g,hg,he,_⟩ := step_of D T ho
    rw [hpi] at he
    have hat : (st (p + 1)).e.at t = if o.dst = some t then v p else (st p).e.at t := by
      rw [he]
      cases hd : o.dst with
      | none => simp [putD]
      | some d =>
        simp only [putD,Env.at_set,Option.some.injEq]
        by_cases e : t = d
        · simp [e]
        · simp [e,Ne.symm e]
    refine ⟨fun j b hj hb hlt => ?_,fun hall => ?_⟩
    · by_cases e : j = i
      · subst e; rw [ho] at hj; cases hj; rw [hat,if_pos hb,hpi]
      · rw [hat,if_neg (D.dist j i b o t e hj ho hb)]
        refine ih1 j b hj hb ?_
        have : pos j ≠ p := fun h => e (D.inj j i (lt_of_get hj) (lt_of_get ho) (h.trans hpi.symm))
        omega
    · rw [hat,if_neg (fun h => by have := hall i o ho h; omega)]
      exact ih2 fun j b hj hb => by have := hall j b hj hb; omega
include D T in
omit [Glo] in
theorem mem_fact {cs : Nat → List AV} (hcs : ∀ i o,ops[i]? = some o → sortO P o = 2 → WantedAt ops st pos i → (st (pos i + 1)).m = (st (pos i)).m.put (base + rank i) ⟨cs i,true⟩) (p' : Nat) :
    ∀ d,p' + d ≤ ops.size → (∀ i o,ops[i]? = some o → sortO P o = 3 → p' ≤ pos i → ¬ pos i < p' + d) → (st (p' + d)).m.next = (st p').m.next ∧
      ∀ j b,(st (p' + d)).m.look j = some b → (st p').m.look j = some b ∨ ∃ i o,ops[i]? = some o ∧ sortO P o = 2 ∧ p' ≤ pos i ∧ pos i < p' + d ∧ WantedAt ops st pos i ∧ j = base + rank i ∧ b = ⟨cs i,true⟩
  | 0,_,_ => ⟨rfl,fun j b h => .inl h⟩
  | d + 1,hp,hno => by
    obtain ⟨ih1,ih2⟩ := mem_fact hcs p' d (by omega) fun i o ho hs h1 h2 => hno i o ho hs h1 (by omega)
    obtain ⟨i,o,ho,hpi⟩ := at_pos D (p := p' + d) (by omega)
    have h3 : sortO P o ≠ 3 := fun h => hno i o ho h (by omega) (by omega)
    obtain ⟨g,hg,he,hstep⟩ := step_of D T ho
    have same : (st (pos i + 1)).m = (st (pos i)).m → (st (p' + (d + 1))).m.next = (st p').m.next ∧
      ∀ j b,(st (p' + (d + 1))).m.look j = some b → (st p').m.look j = some b ∨ ∃ i o,ops[i]? = some o ∧ sortO P o = 2 ∧ p' ≤ pos i ∧ pos i < p' + (d + 1) ∧ WantedAt ops st pos i ∧ j = base + rank i ∧ b = ⟨cs i,true⟩ := by
      intro hm
      rw [hpi] at hm
      rw [show p' + (d + 1) = p' + d + 1 from rfl,hm]
      refine ⟨ih1,fun j b hb => (ih2 j b hb).imp id ?_⟩
      rintro ⟨i',o',h1,h2,h3,h4,h5⟩
      exact ⟨i',o',h1,h2,h3,by omega,h5⟩
    rcases hstep with ⟨_,_,_,hm,_⟩ | ⟨hw,_,hst⟩
    · exact same hm
    · by_cases h2 : sortO P o = 2
      · have hm := hcs i o ho h2 hw
        rw [hpi] at hm
        rw [show p' + (d + 1) = p' + d + 1 from rfl,hm]
        refine ⟨ih1,fun j b hb => ?_⟩
        rw [Mem.look_put] at hb
        by_cases e : j = base + rank i
        · rw [if_pos e] at hb; cases hb
          exact .inr ⟨i,o,ho,h2,by omega,by omega,hw,e,rfl⟩
        · rw [if_neg e] at hb
          refine (ih2 j b hb).imp id ?_
          rintro ⟨i',o',k1,k2,k3,k4,k5⟩
          exact ⟨i',o',k1,k2,k3,by omega,k5⟩
      · rcases hst with ⟨f,args,g',first,cap,hop,_⟩ | ⟨f,args,g',first,cap,hop,_⟩ | ⟨_,hst,_⟩
        · exact absurd (by simp [sortO,hop,AOp.sort]) h3
        · exact absurd (by simp [sortO,hop,AOp.sort]) h3
        · rw [awayOf_sort h3] at hst
          refine same (still_of_sort ?_ hst)
          have := sort_cases (opOf P o.op)
          simp only [sortO] at h2 h3
          rcases this with h | ⟨h,_⟩ | h | ⟨h,_⟩
          · exact .inl h
          · exact .inr h
          · exact absurd h h2
          · exact absurd h h3
include D T in
omit [Glo] in
theorem hist_fact (p' : Nat) (h0 : (st p').h[0]? = some (st p').m) : ∀ d,p' + d ≤ ops.size → cnt p' ≤ cnt (p' + d) ∧ (st (p' + d)).h[cnt (p' + d) - cnt p']? = some (st p').m
  | 0,_ => ⟨Nat.le_refl _,by simpa using h0⟩
  | d + 1,hp => by
    obtain ⟨ih1,ih2⟩ := hist_fact p' h0 d (by omega)
    obtain ⟨i,o,ho,hpi⟩ := at_pos D (p := p' + d) (by omega)
    have hc := D.cnt_succ i o ho
    rw [hpi] at hc
    obtain ⟨g,hg,he,hstep⟩ := step_of D T ho
    have key : ∃ x,(st (p' + d + 1)).h = cond (Nat.beq (sortO P o) 3) (x :: (st (p' + d)).h) (st (p' + d)).h := by
      rw [hpi] at hstep
      rcases hstep with ⟨_,_,_,_,hh⟩ | ⟨_,_,⟨f,args,g',first,cap,hop,_,_,hh⟩ | ⟨f,args,g',first,cap,hop,_,_,_,hh⟩ | ⟨_,_,hh⟩⟩
      · exact ⟨_,hh⟩
      · refine ⟨(st (p' + d + 1)).m,?_⟩
        rw [show Nat.beq (sortO P o) 3 = true by simp [sortO,hop,AOp.sort]]
        exact hh
      · refine ⟨(st (p' + d + 1)).m,?_⟩
        rw [show Nat.beq (sortO P o) 3 = true by simp [sortO,hop,AOp.sort]]
        exact hh
      · exact ⟨_,hh⟩
    obtain ⟨x,hx⟩ := key
    rw [show p' + (d + 1) = p' + d + 1 from rfl,hx,hc]
    cases hb : Nat.beq (sortO P o) 3
    · simpa using ⟨ih1,ih2⟩
    · simp only [cond_true]
      refine ⟨by omega,?_⟩
      rw [show cnt (p' + d) + 1 - cnt p' = (cnt (p' + d) - cnt p') + 1 by omega,List.getElem?_cons_succ]
      exact ih2
include D in
omit [Glo] in
theorem cnt_mono (p' : Nat) : ∀ d,p' + d ≤ ops.size → cnt p' < cnt (p' + d) → ∃ e b,ops[e]? = some b ∧ sortO P b = 3 ∧ p' ≤ pos e ∧ pos e < p' + d ∧ cnt (pos e) = cnt p'
  | 0,_,h => absurd h (Nat.lt_irrefl _)
  | d + 1,hp,h => by
    obtain ⟨i,o,ho,hpi⟩ := at_pos D (p := p' + d) (by omega)
    have hc := D.cnt_succ i o ho
    rw [hpi] at hc
    by_cases hlt : cnt p' < cnt (p' + d)
    · obtain ⟨e,b,h1,h2,h3,h4,h5⟩ := cnt_mono p' d (by omega) hlt
      exact ⟨e,b,h1,h2,h3,by omega,h5⟩
    · rw [show p' + (d + 1) = p' + d + 1 from rfl,hc] at h
      cases hb : Nat.beq (sortO P o) 3
      · rw [hb] at h; simp at h; omega
      · have h3 : sortO P o = 3 := by simpa using hb
        refine ⟨i,o,ho,h3,by omega,by omega,?_⟩
        rw [hpi]
        -- the count does not fall
        have mono : ∀ d',p' + d' ≤ ops.size → cnt p' ≤ cnt (p' + d') := by
          intro d'
          induction d' with
          | zero => intro _; exact Nat.le_refl _
          | succ d' ih =>
            intro hd'
            obtain ⟨i',o',ho',hpi'⟩ := at_pos D (p := p' + d') (by omega)
            have hc' := D.cnt_succ i' o' ho'
            rw [hpi'] at hc'
            rw [show p' + (d' + 1) = p' + d' + 1 from rfl,hc']
            exact Nat.le_trans (ih (by omega)) (Nat.le_add_right _ _)
        have := mono d (by omega)
        omega
end
end Go.Am
