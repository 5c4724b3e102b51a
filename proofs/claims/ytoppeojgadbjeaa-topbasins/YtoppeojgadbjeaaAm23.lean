/-
  THE ABSTRACT MACHINE, 23: a run hangs on the slots that the code names alone; code that does not leave the function.
-/
import Derived.Test.YtoppeojgadbjeaaAm12
import Derived.Test.YtoppeojgadbjeaaAm22
set_option linter.unusedVariables false
set_option linter.unusedSimpArgs false
namespace Go.Am
def Agree (l : List Nat) (e1 e2 : Env) : Prop := ∀ t ∈ l,e1.at t = e2.at t
theorem Agree.put {l : List Nat} {e1 e2 : Env} (h : Agree l e1 e2) (d : Option Nat) (v : AV) : Agree l (putD e1 d v) (putD e2 d v) := by
  intro t ht
  cases d with
  | none => exact h t ht
  | some d =>
    simp only [putD,Env.at_set]
    split
    · rfl
    · exact h t ht
theorem Agree.sub {l l' : List Nat} {e1 e2 : Env} (h : Agree l e1 e2) (hs : ∀ t ∈ l',t ∈ l) : Agree l' e1 e2 := fun t ht => h t (hs t ht)
theorem runOps_agree {cf : CallF} {base : Nat} {l : List Nat} : ∀ (ops : List AOper) (e1 e2 : Env) (m : Mem) (h : List Mem),(∀ t ∈ ops.flatMap AOper.names,t ∈ l) → Agree l e1 e2 → ∀ e1' m',runOps cf base ops e1 m h = some (e1',m') →
    ∃ e2',runOps cf base ops e2 m h = some (e2',m') ∧ Agree l e1' e2'
  | [],e1,e2,m,h,hn,ha,e1',m',hr => by
    simp only [runOps,Option.some.injEq,Prod.mk.injEq] at hr
    obtain ⟨rfl,rfl⟩ := hr
    exact ⟨e2,rfl,ha⟩
  | o :: ops,e1,e2,m,h,hn,ha,e1',m',hr => by
    have hno : ∀ t ∈ o.names,e1.at t = e2.at t := fun t ht => ha t (hn t (by simp [List.flatMap_cons,ht]))
    have hrest : ∀ t ∈ ops.flatMap AOper.names,t ∈ l := fun t ht => hn t (by simp only [List.flatMap_cons,List.mem_append]; exact .inr ht)
    have hs : ∀ t ∈ o.op.slots,e1.at t = e2.at t := fun t ht => hno t (by simp [AOper.names,ht])
    have hw : wanted e1 o.guard = wanted e2 o.guard := wanted_congr fun t b hg => hno t (by simp [AOper.names,hg])
    simp only [runOps] at hr ⊢
    rw [← hw]
    cases hwt : wanted e1 o.guard
    · rw [hwt] at hr
      simp only [cond_false] at hr ⊢
      exact runOps_agree ops _ _ _ _ hrest (ha.put _ _) _ _ hr
    · rw [hwt] at hr
      simp only [cond_true] at hr ⊢
      split at hr
      · rename_i f args hop
        rw [hop] at hs
        simp only [AOp.slots,List.mem_append] at hs
        have hf : f.ev e1 = f.ev e2 := ev_congr fun t ht => hs t (.inl ht)
        have hargs : args.map (Opd.ev e1) = args.map (Opd.ev e2) := evs_congr fun t ht => hs t (.inr ht)
        split at hr
        · rename_i g first cap hg
          rw [← hf,hg]
          simp only
          rw [← hargs]
          split at hr
          · rename_i v m1 hc
            rw [hc]
            exact runOps_agree ops _ _ _ _ hrest (ha.put _ _) _ _ hr
          · cases hr
        · cases hr
      · rename_i f args hop
        rw [hop] at hs
        simp only [AOp.slots,List.mem_append] at hs
        have hf : f.ev e1 = f.ev e2 := ev_congr fun t ht => hs t (.inl ht)
        have hargs : args.map (Opd.ev e1) = args.map (Opd.ev e2) := evs_congr fun t ht => hs t (.inr ht)
        split at hr
        · rename_i g first cap hg
          rw [← hf,hg]
          simp only
          rw [← hargs]
          split at hr
          · rename_i v m1 hc
            exact runOps_agree ops _ _ _ _ hrest (ha.put _ _) _ _ hr
          · cases hr
        · cases hr
      · rename_i h1 h2
        rw [← step_congr m h o.back (o.slot.map (base + ·)) hs]
        split at hr
        · rename_i v m1 hc
          exact runOps_agree ops _ _ _ _ hrest (ha.put _ _) _ _ hr
        · cases hr
theorem exec_agree {C : Prog} {l : List Nat} : ∀ (n : Nat) (c : ACode) (e1 e2 : Env) (m : Mem),(∀ t ∈ c.names,t ∈ l) → Agree l e1 e2 → ∀ x e1' m',exec C n c e1 m = some (x,e1',m') → ∃ e2',exec C n c e2 m = some (x,e2',m') ∧ Agree l e1' e2'
  | 0,c,e1,e2,m,hn,ha,x,e1',m',h => by simp [exec] at h
  | n + 1,c,e1,e2,m,hn,ha,x,e1',m',h => by
    cases c with
    | skip => simp only [exec,Option.some.injEq,Prod.mk.injEq] at h ⊢; obtain ⟨rfl,rfl,rfl⟩ := h; exact ⟨e2,⟨rfl,rfl,rfl⟩,ha⟩
    | exit id => simp only [exec,Option.some.injEq,Prod.mk.injEq] at h ⊢; obtain ⟨rfl,rfl,rfl⟩ := h; exact ⟨e2,⟨rfl,rfl,rfl⟩,ha⟩
    | ret => simp only [exec,Option.some.injEq,Prod.mk.injEq] at h ⊢; obtain ⟨rfl,rfl,rfl⟩ := h; exact ⟨e2,⟨rfl,rfl,rfl⟩,ha⟩
    | fail => simp [exec] at h
    | region r ops =>
      have hf : ∀ e,exec C (n + 1) (.region r ops) e m = (match runOps (callA C n) m.next ops e (m.reserve r) [m.reserve r] with | some (e',m') => some (AExit.normal,e',m') | none => none) := fun _ => rfl
      rw [hf] at h
      rw [hf]
      split at h
      · rename_i e3 m3 hr
        simp only [Option.some.injEq,Prod.mk.injEq] at h
        obtain ⟨rfl,rfl,rfl⟩ := h
        obtain ⟨e4,h4,ha4⟩ := runOps_agree ops e1 e2 _ _ hn ha _ _ hr
        rw [h4]
        exact ⟨e4,rfl,ha4⟩
      · cases h
    | seq a b =>
      have hna : ∀ t ∈ a.names,t ∈ l := fun t ht => hn t (by simp [ACode.names,ht])
      have hnb : ∀ t ∈ b.names,t ∈ l := fun t ht => hn t (by simp [ACode.names,ht])
      rw [exec] at h
      simp only [exec]
      split at h
      · rename_i e3 m3 h3
        obtain ⟨e4,h4,ha4⟩ := exec_agree n a e1 e2 m hna ha _ _ _ h3
        rw [h4]
        exact exec_agree n b e3 e4 m3 hnb ha4 _ _ _ h
      · rename_i hnr
        obtain ⟨e4,h4,ha4⟩ := exec_agree n a e1 e2 m hna ha _ _ _ h
        rw [h4]
        cases x with
        | normal => exact absurd h (hnr _ _)
        | exit id => exact ⟨e4,rfl,ha4⟩
        | ret => exact ⟨e4,rfl,ha4⟩
    | cond c a b =>
      have hna : ∀ t ∈ a.names,t ∈ l := fun t ht => hn t (by simp [ACode.names,ht])
      have hnb : ∀ t ∈ b.names,t ∈ l := fun t ht => hn t (by simp [ACode.names,ht])
      have hc : c.ev e1 = c.ev e2 := ev_congr fun t ht => ha t (hn t (by simp [ACode.names,ht]))
      rw [exec] at h
      simp only [exec,← hc]
      split at h
      · exact exec_agree n a e1 e2 m hna ha _ _ _ h
      · exact exec_agree n b e1 e2 m hnb ha _ _ _ h
      · cases h
    | block id b =>
      rw [exec] at h
      simp only [exec]
      split at h
      · rename_i id' e3 m3 h3
        obtain ⟨e4,h4,ha4⟩ := exec_agree n b e1 e2 m hn ha _ _ _ h3
        rw [h4]
        simp only
        cases hq : Nat.beq id' id
        · rw [hq] at h
          simp only [cond_false,Option.some.injEq,Prod.mk.injEq] at h ⊢
          obtain ⟨rfl,rfl,rfl⟩ := h
          exact ⟨e4,⟨rfl,rfl,rfl⟩,ha4⟩
        · rw [hq] at h
          simp only [cond_true,Option.some.injEq,Prod.mk.injEq] at h ⊢
          obtain ⟨rfl,rfl,rfl⟩ := h
          exact ⟨e4,⟨rfl,rfl,rfl⟩,ha4⟩
      · rename_i hnr
        obtain ⟨e4,h4,ha4⟩ := exec_agree n b e1 e2 m hn ha _ _ _ h
        rw [h4]
        cases x with
        | normal => exact ⟨e4,rfl,ha4⟩
        | exit id' => exact absurd h (hnr _ _ _)
        | ret => exact ⟨e4,rfl,ha4⟩
    | loop b =>
      rw [exec] at h
      simp only [exec]
      split at h
      · rename_i e3 m3 h3
        obtain ⟨e4,h4,ha4⟩ := exec_agree n b e1 e2 m hn ha _ _ _ h3
        rw [h4]
        exact exec_agree n (.loop b) e3 e4 m3 hn ha4 _ _ _ h
      · rename_i hnr
        obtain ⟨e4,h4,ha4⟩ := exec_agree n b e1 e2 m hn ha _ _ _ h
        rw [h4]
        cases x with
        | normal => exact absurd h (hnr _ _)
        | exit id => exact ⟨e4,rfl,ha4⟩
        | ret => exact ⟨e4,rfl,ha4⟩
theorem exec_stays {C : Prog} : ∀ (n : Nat) (c : ACode) (e : Env) (m : Mem),c.stays = true → ∀ e' m',exec C n c e m ≠ some (.ret,e',m')
  | 0,c,e,m,hs,e',m' => by simp [exec]
  | n + 1,c,e,m,hs,e',m' => by
    intro h
    cases c with
    | skip => simp [exec] at h
    | exit id => simp [exec] at h
    | ret => cases hs
    | fail => simp [exec] at h
    | region r ops =>
      have hf : exec C (n + 1) (.region r ops) e m = (match runOps (callA C n) m.next ops e (m.reserve r) [m.reserve r] with | some (e',m') => some (AExit.normal,e',m') | none => none) := rfl
      rw [hf] at h
      split at h <;> simp at h
    | seq a b =>
      simp only [ACode.stays,Bool.and_eq_true] at hs
      rw [exec] at h
      split at h
      · exact exec_stays n b _ _ hs.2 _ _ h
      · exact exec_stays n a _ _ hs.1 _ _ h
    | cond c a b =>
      simp only [ACode.stays,Bool.and_eq_true] at hs
      rw [exec] at h
      split at h
      · exact exec_stays n a _ _ hs.1 _ _ h
      · exact exec_stays n b _ _ hs.2 _ _ h
      · cases h
    | block id b =>
      rw [exec] at h
      split at h
      · rename_i id' e3 m3 h3
        cases hq : Nat.beq id' id <;> rw [hq] at h <;> simp at h
      · exact exec_stays n b _ _ hs _ _ h
    | loop b =>
      rw [exec] at h
      split at h
      · exact exec_stays n (.loop b) _ _ hs _ _ h
      · exact exec_stays n b _ _ hs _ _ h
end Go.Am
