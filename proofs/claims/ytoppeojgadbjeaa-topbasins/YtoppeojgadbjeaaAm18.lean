/-
  THE ABSTRACT MACHINE, 18: rules by which its runs are told for inputs that are not closed.
-/
import Derived.Test.YtoppeojgadbjeaaAm17
set_option linter.unusedVariables false
namespace Go.Am
theorem runOps_op {cf : CallF} {base : Nat} {o : AOper} {l : List AOper} {e : Env} {m : Mem} {h : List Mem} (hg : wanted e o.guard = true) (hn : ∀ f args,o.op ≠ .call f args) (hz : ∀ f args,o.op ≠ .callZ f args) :
    runOps cf base (o :: l) e m h = match stepOp e m h o.back (o.slot.map (base + ·)) o.op with
      | some (v,m') => runOps cf base l (putD e o.dst v) m' (cond o.eff (m' :: h) h)
      | none => none := by
  simp only [runOps,hg,cond_true]
  cases o with
  | mk dst op guard back slot eff => cases op <;> first | rfl | exact absurd rfl (hn _ _) | exact absurd rfl (hz _ _)
theorem runOps_call {cf : CallF} {base : Nat} {o : AOper} {l : List AOper} {e : Env} {m : Mem} {h : List Mem} (hg : wanted e o.guard = true) {f : Opd} {args : List Opd} (hop : o.op = .call f args) :
    runOps cf base (o :: l) e m h = match f.ev e with
      | .func g first cap => match cf g (first ++ (args.map (Opd.ev e) ++ cap)) m with
        | some (v,m') => runOps cf base l (putD e o.dst v) m' (m' :: h)
        | none => none
      | _ => none := by
  simp only [runOps,hg,cond_true]
  cases o with
  | mk dst op guard back slot eff => simp only at hop; subst hop; rfl
theorem runOps_not {cf : CallF} {base : Nat} {o : AOper} {l : List AOper} {e : Env} {m : Mem} {h : List Mem} (hg : wanted e o.guard = false) :
    runOps cf base (o :: l) e m h = runOps cf base l (putD e o.dst .undef) m (cond o.eff (m :: h) h) := by
  simp only [runOps,hg,cond_false]
theorem runOps_callZ {cf : CallF} {base : Nat} {o : AOper} {l : List AOper} {e : Env} {m : Mem} {h : List Mem} (hg : wanted e o.guard = true) {f : Opd} {args : List Opd} (hop : o.op = .callZ f args) :
    runOps cf base (o :: l) e m h = match f.ev e with
      | .func g first cap => match branchA cf g first cap (args.map (Opd.ev e)) m with
        | some (v,m') => runOps cf base l (putD e o.dst v) m' (m' :: h)
        | none => none
      | _ => none := by
  simp only [runOps,hg,cond_true]
  cases o with
  | mk dst op guard back slot eff => simp only at hop; subst hop; rfl
def CallsA (C : Prog) (f : Nat) (args : List AV) (m : Mem) (Q : AV → Mem → Prop) : Prop := ∃ n v m',callA C n f args m = some (v,m') ∧ Q v m'
def WpC (C : Prog) (c : ACode) (Q : AExit → Env → Mem → Prop) (e : Env) (m : Mem) : Prop := ∃ n x e' m',exec C n c e m = some (x,e',m') ∧ Q x e' m'
theorem CallsA.mono {C : Prog} {f : Nat} {args : List AV} {m : Mem} {Q Q' : AV → Mem → Prop} (h : CallsA C f args m Q) (k : ∀ v m',Q v m' → Q' v m') : CallsA C f args m Q' :=
  let ⟨n,v,m',h1,h2⟩ := h; ⟨n,v,m',h1,k v m' h2⟩
theorem WpC.mono {C : Prog} {c : ACode} {e : Env} {m : Mem} {Q Q' : AExit → Env → Mem → Prop} (h : WpC C c Q e m) (k : ∀ x e' m',Q x e' m' → Q' x e' m') : WpC C c Q' e m :=
  let ⟨n,x,e',m',h1,h2⟩ := h; ⟨n,x,e',m',h1,k x e' m' h2⟩
section
variable {C : Prog} {Q : AExit → Env → Mem → Prop} {e : Env} {m : Mem}
end
structure Ext (m m' : Mem) : Prop where
  next : m.next ≤ m'.next
  look : ∀ i,i < m.next → m'.look i = m.look i
theorem Ext.refl (m : Mem) : Ext m m := ⟨Nat.le_refl _,fun _ _ => rfl⟩
theorem Ext.trans {a b c : Mem} (h : Ext a b) (k : Ext b c) : Ext a c := ⟨Nat.le_trans h.next k.next,fun i hi => (k.look i (Nat.lt_of_lt_of_le hi h.next)).trans (h.look i hi)⟩
theorem Ext.alloc {a m : Mem} (h : Ext a m) (b : Blk) : Ext a (m.alloc b) :=
  ⟨Nat.le_trans h.next (Nat.le_succ _),fun i hi => by rw [Mem.look_alloc,if_neg (by have := h.next; omega)]; exact h.look i hi⟩
theorem Ext.put {a m : Mem} (h : Ext a m) {i : Nat} (hi : a.next ≤ i) (b : Blk) : Ext a (m.put i b) :=
  ⟨h.next,fun j hj => by rw [Mem.look_put,if_neg (by omega)]; exact h.look j hj⟩
theorem Ext.reserve {a m : Mem} (h : Ext a m) (n : Nat) : Ext a (m.reserve n) := ⟨Nat.le_trans h.next (Nat.le_add_right _ _),h.look⟩
end Go.Am
