/-
  THE LIST MACHINE, 16: runs by the kernel where some calls are told by a table of contracts. No statement of the seat is proved here.
-/
import Derived.Test.YtheppipmnfjdcaaLm15
set_option linter.unusedVariables false
set_option linter.unusedSimpArgs false
namespace Go.Am
variable [Glo]

/-- A run where calls are looked up first. -/
def execT (C : LProg) (T : CallL) : Nat → LCode → LEnv → LMem → Option (AExit × LEnv × LMem)
  | 0, _, _, _ => none
  | n + 1, c, e, m =>
    match c with
    | .skip => some (.normal, e, m)
    | .region _ ks ops =>
      match runL (fun f args m => match T f args m with
        | some r => some r
        | none => match C f with
          | some lf => callMode (fun vs m => retL lf.results (execT C T n lf.body (LEnv.ofFrom 0 vs) m)) lf.mode args m
          | none => none) ops e m ⟨m.length, false, [], [], 1, [some m]⟩ with
      | some (e', m') => some (.normal, e'.keep ks, m')
      | none => none
    | .seq a b => match execT C T n a e m with
      | some (.normal, e', m') => execT C T n b e' m'
      | r => r
    | .cond c a b => match evL e c with
      | .bool true => execT C T n a e m
      | .bool false => execT C T n b e m
      | _ => none
    | .block id b => match execT C T n b e m with
      | some (.exit id', e', m') => cond (Nat.beq id' id) (some (.normal, e', m')) (some (.exit id', e', m'))
      | r => r
    | .loop tr ks b => match execT C T n b (e.keep ks) m with
      | some (.normal, e', m') => execT C T n (.loop tr ks b) (e'.keep ks) (cond tr (trim m.length (envVals (e'.keep ks)) m') m')
      | r => r
    | .exit id ks => some (.exit id, e.keep ks, m)
    | .ret ks => some (.ret, e.keep ks, m)
    | .fail => none
theorem execT_ok {C : LProg} {T : CallL} (hT : ∀ f a m r, T f a m = some r → clF C f a m = some r) : ∀ (n : Nat) (c : LCode) (e : LEnv) (m : LMem) (r : AExit × LEnv × LMem), execT C T n c e m = some r → exF C c e m = some r := by
  intro n
  induction n with
  | zero => intro c e m r h; cases h
  | succ n ih =>
    intro c e m r h
    cases c with
    | skip => rw [exF_skip]; exact h
    | region q ks ops =>
      rw [exF_region]
      simp only [execT] at h
      split at h
      · rename_i e' m' hr
        have := runL_mono (cf' := clF C) (fun f a m r h => by
          split at h
          · rename_i r' hr'
            rw [← h]; exact hT _ _ _ _ hr'
          · split at h
            · rename_i lf hlf
              rw [clF_eq, hlf]
              exact callMode_mono (fun a m r hh => retL_mono (fun r hr => ih _ _ _ _ hr) hh) h
            · cases h) _ _ _ _ _ hr
        rw [this]; exact h
      · cases h
    | seq a b =>
      rw [exF_seq]
      simp only [execT] at h
      cases ha : execT C T n a e m with
      | none => rw [ha] at h; simp at h
      | some x =>
        rw [ha] at h
        rw [ih _ _ _ _ ha]
        obtain ⟨x1, x2, x3⟩ := x
        cases x1 with
        | normal => exact ih _ _ _ _ h
        | _ => exact h
    | cond q a b =>
      rw [exF_cond]
      simp only [execT] at h
      split at h
      · rename_i hq; rw [hq]; exact ih _ _ _ _ h
      · rename_i hq; rw [hq]; exact ih _ _ _ _ h
      · cases h
    | block id b =>
      rw [exF_block]
      simp only [execT] at h
      cases hb : execT C T n b e m with
      | none => rw [hb] at h; simp at h
      | some x =>
        rw [hb] at h
        rw [ih _ _ _ _ hb]
        exact h
    | loop tr ks b =>
      rw [exF_loop]
      simp only [execT] at h
      cases hb : execT C T n b (e.keep ks) m with
      | none => rw [hb] at h; simp at h
      | some x =>
        rw [hb] at h
        rw [ih _ _ _ _ hb]
        obtain ⟨x1, x2, x3⟩ := x
        cases x1 with
        | normal => exact ih _ _ _ _ h
        | _ => exact h
    | exit id ks => rw [exF_exit]; exact h
    | ret ks => rw [exF_ret]; exact h
    | fail => cases h

/-! ### Tables of calls -/
mutual
def LV.eqb : LV → LV → Bool
  | .undef, .undef => true
  | .bool a, .bool b => a == b
  | .int k a, .int k' b => k == k' && a == b
  | .nilptr, .nilptr => true
  | .nilFunc, .nilFunc => true
  | .nilIface, .nilIface => true
  | .nilmap, .nilmap => true
  | .elt a o, .elt b o' => Nat.beq o o' && LV.eqbs a b
  | .lst nl ex sz n a, .lst nl' ex' sz' n' b => (nl == nl' && ex == ex') && ((Nat.beq sz sz' && Nat.beq n n') && LV.eqbs a b)
  | .func f a b, .func f' a' b' => Nat.beq f f' && (LV.eqbs a a' && LV.eqbs b b')
  | .agg a, .agg b => LV.eqbs a b
  | .tup a, .tup b => LV.eqbs a b
  | _, _ => false
def LV.eqbs : List LV → List LV → Bool
  | [], [] => true
  | a :: r, b :: s => LV.eqb a b && LV.eqbs r s
  | _, _ => false
end
omit [Glo] in
mutual
theorem eqb_ok : ∀ {a b : LV}, LV.eqb a b = true → a = b
  | .undef, .undef, _ => rfl
  | .bool a, .bool b, h => by simp only [LV.eqb, beq_iff_eq] at h; rw [h]
  | .int k a, .int k' b, h => by
    simp only [LV.eqb, Bool.and_eq_true, beq_iff_eq] at h
    rw [h.1, h.2]
  | .nilptr, .nilptr, _ => rfl
  | .nilFunc, .nilFunc, _ => rfl
  | .nilIface, .nilIface, _ => rfl
  | .nilmap, .nilmap, _ => rfl
  | .elt a o, .elt b o', h => by
    simp only [LV.eqb, Bool.and_eq_true, nbeq, decide_eq_true_eq] at h
    rw [h.1, eqbs_ok h.2]
  | .lst nl ex sz n a, .lst nl' ex' sz' n' b, h => by
    simp only [LV.eqb, Bool.and_eq_true, nbeq, decide_eq_true_eq, beq_iff_eq] at h
    rw [h.1.1, h.1.2, h.2.1.1, h.2.1.2, eqbs_ok h.2.2]
  | .func f a b, .func f' a' b', h => by
    simp only [LV.eqb, Bool.and_eq_true, nbeq, decide_eq_true_eq] at h
    rw [h.1, eqbs_ok h.2.1, eqbs_ok h.2.2]
  | .agg a, .agg b, h => by simp only [LV.eqb] at h; rw [eqbs_ok h]
  | .tup a, .tup b, h => by simp only [LV.eqb] at h; rw [eqbs_ok h]
theorem eqbs_ok : ∀ {a b : List LV}, LV.eqbs a b = true → a = b
  | [], [], _ => rfl
  | a :: r, b :: s, h => by
    simp only [LV.eqbs, Bool.and_eq_true] at h
    rw [eqb_ok h.1, eqbs_ok h.2]
end
/-- Calls that give a value and leave memory as it is. -/
def tabT : List (Nat × List LV × LV) → CallL
  | [], _, _, _ => none
  | (f, a, v) :: r, g, args, m => cond (Nat.beq f g && LV.eqbs a args) (some (.P, v, m)) (tabT r g args m)
theorem tabT_ok {C : LProg} : ∀ (l : List (Nat × List LV × LV)), (∀ x ∈ l, ∀ m, clF C x.1 x.2.1 m = some (.P, x.2.2, m)) → ∀ f a m r, tabT l f a m = some r → clF C f a m = some r
  | [], _, f, a, m, r, h => by cases h
  | (g, b, v) :: l, hl, f, a, m, r, h => by
    rw [tabT] at h
    cases c : (Nat.beq g f && LV.eqbs b a)
    · rw [c, cond_false] at h
      exact tabT_ok l (fun x hx => hl x (by simp [hx])) f a m r h
    · rw [c, cond_true] at h
      simp only [Bool.and_eq_true, nbeq, decide_eq_true_eq] at c
      obtain ⟨rfl, h2⟩ := c
      rw [← eqbs_ok h2, ← h]
      exact hl (g, b, v) (by simp) m
def isTrueT : Option (LV × LMem) → Bool
  | some (.bool b, _) => b
  | _ => false
/-- A law without arguments, by a run. -/
theorem law_T {C : LProg} {l : List (Nat × List LV × LV)} (hl : ∀ x ∈ l, ∀ m, clF C x.1 x.2.1 m = some (.P, x.2.2, m)) {f : Nat} {lf : LFunc} (hC : C f = some lf) (hm : lf.mode = .P) (n : Nat) (h : isTrueT (retL lf.results (execT C (tabT l) n lf.body (LEnv.ofFrom 0 []) [])) = true) (m : LMem) : clF C f [] m = some (.P, .bool true, m) := by
  unfold isTrueT at h
  split at h
  · rename_i b m' hr
    subst h
    exact call_P hC hm rfl (retL_mono (fun r hr => execT_ok (tabT_ok l hl) n _ _ _ r hr) hr) rfl m
  · cases h
end Go.Am

