/-
  THE ABSTRACT MACHINE, 18: rules by which its runs are told for inputs that are not closed.
-/
import Derived.Test.YtcckhkcchpfdoaaAm17
set_option linter.unusedVariables false
namespace Go.Am

theorem runOps_op {cf : CallF} {base : Nat} {o : AOper} {l : List AOper} {e : Env} {m : Mem} {h : List Mem} (hg : wanted e o.guard = true) (hn : ∀ f args, o.op ≠ .call f args) :
    runOps cf base (o :: l) e m h = match stepOp e m h o.back (o.slot.map (base + ·)) o.op with
      | some (v, m') => runOps cf base l (putD e o.dst v) m' (cond o.eff (m' :: h) h)
      | none => none := by
  simp only [runOps, hg, cond_true]
  cases o with
  | mk dst op guard back slot eff => cases op <;> first | rfl | exact absurd rfl (hn _ _)
theorem runOps_call {cf : CallF} {base : Nat} {o : AOper} {l : List AOper} {e : Env} {m : Mem} {h : List Mem} (hg : wanted e o.guard = true) {f : Opd} {args : List Opd} (hop : o.op = .call f args) :
    runOps cf base (o :: l) e m h = match f.ev e with
      | .func g first cap => match cf g (first ++ (args.map (Opd.ev e) ++ cap)) m with
        | some (v, m') => runOps cf base l (putD e o.dst v) m' (m' :: h)
        | none => none
      | _ => none := by
  simp only [runOps, hg, cond_true]
  cases o with
  | mk dst op guard back slot eff => simp only at hop; subst hop; rfl
theorem runOps_not {cf : CallF} {base : Nat} {o : AOper} {l : List AOper} {e : Env} {m : Mem} {h : List Mem} (hg : wanted e o.guard = false) :
    runOps cf base (o :: l) e m h = runOps cf base l (putD e o.dst .undef) m (cond o.eff (m :: h) h) := by
  simp only [runOps, hg, cond_false]
theorem call_or_not (x : AOp) : (∃ f l, x = .call f l) ∨ ∀ f l, x ≠ .call f l := by cases x <;> simp

theorem runOps_mono {cf cf' : CallF} (h : ∀ f a m r, cf f a m = some r → cf' f a m = some r) (base : Nat) : ∀ (l : List AOper) (e : Env) (m : Mem) (hs : List Mem) (r : Env × Mem), runOps cf base l e m hs = some r → runOps cf' base l e m hs = some r
  | [], e, m, hs, r, hr => hr
  | o :: l, e, m, hs, r, hr => by
    cases hw : wanted e o.guard
    · rw [runOps_not hw] at hr ⊢
      exact runOps_mono h base l _ _ _ _ hr
    · rcases call_or_not o.op with ⟨f, args, hop⟩ | hn
      · rw [runOps_call hw hop] at hr ⊢
        split at hr
        · rename_i hf
          split at hr
          · rename_i hc
            simp only [h _ _ _ _ hc]
            exact runOps_mono h base l _ _ _ _ hr
          · cases hr
        · cases hr
      · rw [runOps_op hw hn] at hr ⊢
        split at hr
        · rename_i hst
          exact runOps_mono h base l _ _ _ _ hr
        · cases hr

theorem exec_succ {C : Prog} : ∀ (n : Nat) (c : ACode) (e : Env) (m : Mem) (r : AExit × Env × Mem), exec C n c e m = some r → exec C (n + 1) c e m = some r
  | 0, c, e, m, r, h => by simp [exec] at h
  | n + 1, c, e, m, r, h => by
    have hcall : ∀ f a m r, callA C n f a m = some r → callA C (n + 1) f a m = some r := by
      intro f a m r hr
      unfold callA at hr ⊢
      split at hr
      · rename_i af haf
        split at hr
        · rename_i hx; rw [exec_succ n _ _ _ _ hx]; exact hr
        · rename_i hx; rw [exec_succ n _ _ _ _ hx]; exact hr
        · cases hr
      · cases hr
    cases c with
    | skip => exact h
    | exit id => exact h
    | ret => exact h
    | fail => exact h
    | region q ops =>
      have h' : (match runOps (callA C n) m.next ops e (m.reserve q) [m.reserve q] with | some (e', m') => some (AExit.normal, e', m') | none => none) = some r := h
      show (match runOps (callA C (n + 1)) m.next ops e (m.reserve q) [m.reserve q] with | some (e', m') => some (AExit.normal, e', m') | none => none) = some r
      split at h'
      · rename_i hr
        rw [runOps_mono hcall _ _ _ _ _ _ hr]
        exact h'
      · cases h'
    | seq a b =>
      rw [exec] at h ⊢
      split at h
      · rename_i hx
        rw [exec_succ n _ _ _ _ hx]
        exact exec_succ n _ _ _ _ h
      · rename_i hn
        rw [exec_succ n _ _ _ _ h]
        split
        · rename_i hx; cases hx; exact absurd h (hn _ _)
        · rfl
    | cond q a b =>
      rw [exec] at h ⊢
      split at h
      · rename_i hq; exact exec_succ n _ _ _ _ h
      · rename_i hq; exact exec_succ n _ _ _ _ h
      · cases h
    | block id b =>
      rw [exec] at h ⊢
      split at h
      · rename_i hx
        rw [exec_succ n _ _ _ _ hx]
        exact h
      · rename_i hn
        rw [exec_succ n _ _ _ _ h]
        split
        · rename_i hx; cases hx; exact absurd h (hn _ _ _)
        · rfl
    | loop b =>
      rw [exec] at h ⊢
      split at h
      · rename_i hx
        rw [exec_succ n _ _ _ _ hx]
        exact exec_succ n _ _ _ _ h
      · rename_i hn
        rw [exec_succ n _ _ _ _ h]
        split
        · rename_i hx; cases hx; exact absurd h (hn _ _)
        · rfl

theorem exec_mono {C : Prog} {n k : Nat} (hk : n ≤ k) {c : ACode} {e : Env} {m : Mem} {r : AExit × Env × Mem} (h : exec C n c e m = some r) : exec C k c e m = some r := by
  induction hk with
  | refl => exact h
  | step _ ih => exact exec_succ _ _ _ _ _ ih

theorem callA_mono {C : Prog} {n k : Nat} (hk : n ≤ k) {f : Nat} {a : List AV} {m : Mem} {r : AV × Mem} (hr : callA C n f a m = some r) : callA C k f a m = some r := by
  unfold callA at hr ⊢
  split at hr
  · split at hr
    · rename_i hx; rw [exec_mono hk hx]; exact hr
    · rename_i hx; rw [exec_mono hk hx]; exact hr
    · cases hr
  · cases hr

/-- The call returns a value and a memory of which Q holds. -/
def CallsA (C : Prog) (f : Nat) (args : List AV) (m : Mem) (Q : AV → Mem → Prop) : Prop := ∃ n v m', callA C n f args m = some (v, m') ∧ Q v m'
def WpC (C : Prog) (c : ACode) (Q : AExit → Env → Mem → Prop) (e : Env) (m : Mem) : Prop := ∃ n x e' m', exec C n c e m = some (x, e', m') ∧ Q x e' m'

theorem CallsA.mono {C : Prog} {f : Nat} {args : List AV} {m : Mem} {Q Q' : AV → Mem → Prop} (h : CallsA C f args m Q) (k : ∀ v m', Q v m' → Q' v m') : CallsA C f args m Q' :=
  let ⟨n, v, m', h1, h2⟩ := h; ⟨n, v, m', h1, k v m' h2⟩
theorem WpC.mono {C : Prog} {c : ACode} {e : Env} {m : Mem} {Q Q' : AExit → Env → Mem → Prop} (h : WpC C c Q e m) (k : ∀ x e' m', Q x e' m' → Q' x e' m') : WpC C c Q' e m :=
  let ⟨n, x, e', m', h1, h2⟩ := h; ⟨n, x, e', m', h1, k x e' m' h2⟩

/-- The operations of a region, one after the other. -/
def WpO (C : Prog) (base : Nat) : List AOper → (Env → Mem → Prop) → Env → Mem → List Mem → Prop
  | [], Q, e, m, _ => Q e m
  | o :: r, Q, e, m, h =>
    if wanted e o.guard then
      match o.op with
      | .call f args => ∃ g first cap, f.ev e = .func g first cap ∧ CallsA C g (first ++ (args.map (Opd.ev e) ++ cap)) m fun v m' => WpO C base r Q (putD e o.dst v) m' (m' :: h)
      | op => ∃ v m', stepOp e m h o.back (o.slot.map (base + ·)) op = some (v, m') ∧ WpO C base r Q (putD e o.dst v) m' (cond o.eff (m' :: h) h)
    else WpO C base r Q (putD e o.dst .undef) m (cond o.eff (m :: h) h)

theorem wpO_sound {C : Prog} {base : Nat} : ∀ {l : List AOper} {Q : Env → Mem → Prop} {e : Env} {m : Mem} {h : List Mem}, WpO C base l Q e m h → ∃ n e' m', runOps (callA C n) base l e m h = some (e', m') ∧ Q e' m'
  | [], Q, e, m, h, hw => ⟨0, e, m, rfl, hw⟩
  | o :: l, Q, e, m, h, hw => by
    simp only [WpO] at hw
    cases hg : wanted e o.guard
    · rw [hg] at hw
      obtain ⟨n, e', m', h1, h2⟩ := wpO_sound (by simpa using hw)
      exact ⟨n, e', m', by simp only [runOps, hg, cond_false]; exact h1, h2⟩
    · rw [hg] at hw
      simp only [if_true] at hw
      split at hw
      · rename_i f args hop
        obtain ⟨g, first, cap, hf, n1, v, m1, hc, hw⟩ := hw
        obtain ⟨n2, e', m', h1, h2⟩ := wpO_sound hw
        refine ⟨max n1 n2, e', m', ?_, h2⟩
        rw [runOps_call hg hop]
        simp only [hf, callA_mono (Nat.le_max_left n1 n2) hc]
        exact runOps_mono (fun f a m r hr => callA_mono (Nat.le_max_right n1 n2) hr) base _ _ _ _ _ h1
      · rename_i hn
        obtain ⟨v, m1, hst, hw⟩ := hw
        obtain ⟨n, e', m', h1, h2⟩ := wpO_sound hw
        refine ⟨n, e', m', ?_, h2⟩
        rw [runOps_op hg fun f args => hn f args]
        simp only [hst]
        exact h1

section
variable {C : Prog} {Q : AExit → Env → Mem → Prop} {e : Env} {m : Mem}
theorem wpC_skip (h : Q .normal e m) : WpC C .skip Q e m := ⟨1, _, _, _, rfl, h⟩
theorem wpC_exit {id : Nat} (h : Q (.exit id) e m) : WpC C (.exit id) Q e m := ⟨1, _, _, _, rfl, h⟩
theorem wpC_ret (h : Q .ret e m) : WpC C .ret Q e m := ⟨1, _, _, _, rfl, h⟩
theorem wpC_region {r : Nat} {ops : List AOper} (h : WpO C m.next ops (Q .normal) e (m.reserve r) [m.reserve r]) : WpC C (.region r ops) Q e m := by
  obtain ⟨n, e', m', h1, h2⟩ := wpO_sound h
  refine ⟨n + 1, .normal, e', m', ?_, h2⟩
  show (match runOps (callA C n) m.next ops e (m.reserve r) [m.reserve r] with | some (e', m') => some (AExit.normal, e', m') | none => none) = _
  rw [h1]
theorem reserve_zero (m : Mem) : m.reserve 0 = m := rfl
theorem wpC_plain {ops : List AOper} (h : WpO C m.next ops (Q .normal) e m [m]) : WpC C (.region 0 ops) Q e m := wpC_region h

/-- Behind a first part. -/
def ThenQ (C : Prog) (b : ACode) (Q : AExit → Env → Mem → Prop) : AExit → Env → Mem → Prop
  | .normal, e, m => WpC C b Q e m
  | x, e, m => Q x e m
theorem wpC_seq {a b : ACode} (h : WpC C a (ThenQ C b Q) e m) : WpC C (.seq a b) Q e m := by
  obtain ⟨n, x, e1, m1, h1, h2⟩ := h
  cases x with
  | normal =>
    obtain ⟨k, x, e2, m2, h3, h4⟩ := h2
    refine ⟨max n k + 1, x, e2, m2, ?_, h4⟩
    rw [exec, exec_mono (Nat.le_max_left n k) h1]
    exact exec_mono (Nat.le_max_right n k) h3
  | exit id => exact ⟨n + 1, _, _, _, by rw [exec, h1], h2⟩
  | ret => exact ⟨n + 1, _, _, _, by rw [exec, h1], h2⟩
theorem wpC_cond {c : Opd} {a b : ACode} {t : Bool} (hc : c.ev e = .bool t) (h : WpC C (cond t a b) Q e m) : WpC C (.cond c a b) Q e m := by
  obtain ⟨n, x, e1, m1, h1, h2⟩ := h
  refine ⟨n + 1, x, e1, m1, ?_, h2⟩
  rw [exec, hc]
  cases t <;> exact h1
def BlockQ (id : Nat) (Q : AExit → Env → Mem → Prop) : AExit → Env → Mem → Prop
  | .exit id', e, m => if id' = id then Q .normal e m else Q (.exit id') e m
  | x, e, m => Q x e m
theorem wpC_block {id : Nat} {b : ACode} (h : WpC C b (BlockQ id Q) e m) : WpC C (.block id b) Q e m := by
  obtain ⟨n, x, e1, m1, h1, h2⟩ := h
  cases x with
  | normal => exact ⟨n + 1, _, _, _, by rw [exec, h1], h2⟩
  | ret => exact ⟨n + 1, _, _, _, by rw [exec, h1], h2⟩
  | exit id' =>
    by_cases hid : id' = id
    · simp only [BlockQ, hid, if_true] at h2
      exact ⟨n + 1, .normal, e1, m1, by rw [exec, h1]; simp [hid], h2⟩
    · simp only [BlockQ, hid, if_false] at h2
      refine ⟨n + 1, .exit id', e1, m1, ?_, h2⟩
      rw [exec, h1]
      have : Nat.beq id' id = false := by
        cases hb : Nat.beq id' id
        · rfl
        · exact absurd (by simpa using hb) hid
      simp [this]
/-- A loop: of the rounds that are left, told by a number. -/
def LoopQ (I : Nat → Env → Mem → Prop) (n : Nat) (Q : AExit → Env → Mem → Prop) : AExit → Env → Mem → Prop
  | .normal, e, m => ∃ k, k < n ∧ I k e m
  | x, e, m => Q x e m
theorem wpC_loop {b : ACode} (I : Nat → Env → Mem → Prop) (n : Nat) (h0 : I n e m) (hr : ∀ n e m, I n e m → WpC C b (LoopQ I n Q) e m) : WpC C (.loop b) Q e m := by
  induction n using Nat.strongRecOn generalizing e m with
  | _ n ih =>
    obtain ⟨k, x, e1, m1, h1, h2⟩ := hr n e m h0
    cases x with
    | normal =>
      obtain ⟨j, hj, hI⟩ := h2
      obtain ⟨k2, x, e2, m2, h3, h4⟩ := ih j hj hI
      refine ⟨max k k2 + 1, x, e2, m2, ?_, h4⟩
      rw [exec, exec_mono (Nat.le_max_left k k2) h1]
      exact exec_mono (Nat.le_max_right k k2) h3
    | exit id => exact ⟨k + 1, _, _, _, by rw [exec, h1], h2⟩
    | ret => exact ⟨k + 1, _, _, _, by rw [exec, h1], h2⟩
end

/-- The end of a function. -/
def EndQ (af : AFunc) (Q : AV → Mem → Prop) : AExit → Env → Mem → Prop
  | .exit _, _, _ => False
  | _, e, m => ∃ v, results af e m = some v ∧ Q v m
theorem callsA_of {C : Prog} {f : Nat} {af : AFunc} (hf : C f = some af) {args : List AV} {m : Mem} {Q : AV → Mem → Prop} (h : WpC C af.body (EndQ af Q) (Env.of args) m) : CallsA C f args m Q := by
  obtain ⟨n, x, e', m', h1, h2⟩ := h
  cases x with
  | exit id => exact h2.elim
  | normal =>
    obtain ⟨v, hv, hq⟩ := h2
    exact ⟨n, v, m', by unfold callA; rw [hf]; simp only [h1, hv], hq⟩
  | ret =>
    obtain ⟨v, hv, hq⟩ := h2
    exact ⟨n, v, m', by unfold callA; rw [hf]; simp only [h1, hv], hq⟩

/-! ### Memory that only grows -/
structure Ext (m m' : Mem) : Prop where
  next : m.next ≤ m'.next
  look : ∀ i, i < m.next → m'.look i = m.look i
theorem Ext.refl (m : Mem) : Ext m m := ⟨Nat.le_refl _, fun _ _ => rfl⟩
theorem Ext.trans {a b c : Mem} (h : Ext a b) (k : Ext b c) : Ext a c := ⟨Nat.le_trans h.next k.next, fun i hi => (k.look i (Nat.lt_of_lt_of_le hi h.next)).trans (h.look i hi)⟩
theorem Ext.alloc {a m : Mem} (h : Ext a m) (b : Blk) : Ext a (m.alloc b) :=
  ⟨Nat.le_trans h.next (Nat.le_succ _), fun i hi => by rw [Mem.look_alloc, if_neg (by have := h.next; omega)]; exact h.look i hi⟩
theorem Ext.put {a m : Mem} (h : Ext a m) {i : Nat} (hi : a.next ≤ i) (b : Blk) : Ext a (m.put i b) :=
  ⟨h.next, fun j hj => by rw [Mem.look_put, if_neg (by omega)]; exact h.look j hj⟩
theorem Ext.reserve {a m : Mem} (h : Ext a m) (n : Nat) : Ext a (m.reserve n) := ⟨Nat.le_trans h.next (Nat.le_add_right _ _), h.look⟩
end Go.Am
