/-
  THE ABSTRACT MACHINE, 12: a region that draws its order, the facts of the canonical order.
-/
import Derived.Test.YtoppeojgadbjeaaAm11
set_option linter.unusedVariables false
set_option linter.unusedSimpArgs false
namespace Go.Am
variable [Glo]
variable {P : Program}
omit [Glo] in
theorem ev_congr {e1 e2 : Env} {x : Opd} (h : ∀ t ∈ x.slots,e1.at t = e2.at t) : x.ev e1 = x.ev e2 := by
  cases x with
  | t n => exact h n (by simp [Opd.slots])
  | c v => rfl
omit [Glo] in
theorem evs_congr {e1 e2 : Env} {l : List Opd} (h : ∀ t ∈ l.flatMap Opd.slots,e1.at t = e2.at t) : l.map (Opd.ev e1) = l.map (Opd.ev e2) :=
  List.map_congr_left fun x hx => ev_congr fun t ht => h t (List.mem_flatMap.2 ⟨x,hx,ht⟩)
omit [Glo] in
theorem parts_congr {e1 e2 : Env} {l : List (Nat × Nat × Opd)} (h : ∀ t ∈ l.flatMap (fun p => p.2.2.slots),e1.at t = e2.at t) :
    (l.map fun p => (p.1,p.2.1,p.2.2.ev e1)) = l.map fun p => (p.1,p.2.1,p.2.2.ev e2) :=
  List.map_congr_left fun x hx => by rw [ev_congr fun t ht => h t (List.mem_flatMap.2 ⟨x,hx,ht⟩)]
omit [Glo] in
theorem opt_congr {e1 e2 : Env} {x : Option Opd} (h : ∀ t ∈ (x.map Opd.slots).getD [],e1.at t = e2.at t) : x.map (Opd.ev e1) = x.map (Opd.ev e2) := by
  cases x with
  | none => rfl
  | some x => simp only [Option.map_some]; rw [ev_congr (by simpa using h)]
omit [Glo] in
theorem step_congr {e1 e2 : Env} (m : Mem) (hs : List Mem) (bk : Nat) (sl : Option Nat) {x : AOp} (h : ∀ t ∈ x.slots,e1.at t = e2.at t) : stepOp e1 m hs bk sl x = stepOp e2 m hs bk sl x := by
  cases x <;> simp only [AOp.slots,List.mem_append,or_imp,forall_and] at h <;> simp only [stepOp]
  case mov x => rw [ev_congr h]
  case box x => rw [ev_congr h]
  case load x => rw [ev_congr h]
  case nilCheck x => rw [ev_congr h]
  case un x => rw [ev_congr h]
  case conv x => rw [ev_congr h]
  case fieldA x => rw [ev_congr h]
  case field x => rw [ev_congr h]
  case ext x i => rw [ev_congr h]
  case len x => rw [ev_congr h]
  case pick c a b => rw [ev_congr h.1,ev_congr h.2.1,ev_congr h.2.2]
  case build z ps => rw [parts_congr h]
  case buildS z n ps => rw [parts_congr h]
  case store n a x => rw [ev_congr h.1,ev_congr h.2]
  case bin o a x => rw [ev_congr h.1,ev_congr h.2]
  case eqa g n a x => rw [ev_congr h.1,ev_congr h.2]
  case eqs g a x => rw [ev_congr h.1,ev_congr h.2]
  case eqb g a x => rw [ev_congr h.1,ev_congr h.2]
  case idxA a n x i => rw [ev_congr h.1,ev_congr h.2]
  case idx l n g x i => rw [ev_congr h.1,ev_congr h.2]
  case mkS z b n l c => rw [ev_congr h.1,ev_congr h.2]
  case append n b s x => rw [ev_congr h.1,ev_congr h.2]
  case copy n d s => rw [ev_congr h.1,ev_congr h.2]
  case clr z s => rw [ev_congr h]
  case clrs z s => rw [ev_congr h]
  case lookM ck z x k => rw [ev_congr h.1,ev_congr h.2]
  case putM x k v => rw [ev_congr h.1,ev_congr h.2.1,ev_congr h.2.2]
  case appZ n b s x => rw [ev_congr h.1,ev_congr h.2]
  case slcA k n x lo hi =>
    have h1 := opt_congr h.2.1
    have h2 := opt_congr h.2.2
    rw [ev_congr h.1]
    simp only [show (fun x => Opd.ev e1 x) = Opd.ev e1 from rfl,show (fun x => Opd.ev e2 x) = Opd.ev e2 from rfl]
    rw [h1,h2]
  case slc n x lo hi mx =>
    have h1 := opt_congr h.2.1
    have h2 := opt_congr h.2.2.1
    have h3 := opt_congr h.2.2.2
    rw [ev_congr h.1]
    simp only [show (fun x => Opd.ev e1 x) = Opd.ev e1 from rfl,show (fun x => Opd.ev e2 x) = Opd.ev e2 from rfl]
    rw [h1,h2,h3]
  case mkF f xs ys =>
    have h1 := evs_congr h.1
    have h2 := evs_congr h.2
    simp only [show (fun x => Opd.ev e1 x) = Opd.ev e1 from rfl,show (fun x => Opd.ev e2 x) = Opd.ev e2 from rfl]
    rw [h1,h2]
  case max xs => rw [evs_congr h]
  case min xs => rw [evs_congr h]
omit [Glo] in
theorem wanted_congr {e1 e2 : Env} {g : Option (Nat × Bool)} (h : ∀ t b,g = some (t,b) → e1.at t = e2.at t) : wanted e1 g = wanted e2 g := by
  cases g with
  | none => rfl
  | some x => obtain ⟨t,b⟩ := x; simp only [wanted]; rw [h t b rfl]
omit [Glo] in
theorem awayOf_cases (a c : Bool) (op : AOp) : awayOf a c op = op ∨ (∃ n b s x,op = .append n b s x ∧ a = true ∧ awayOf a c op = .appZ n b s x) ∨ (∃ f l,op = .call f l ∧ c = true ∧ awayOf a c op = .callZ f l) := by
  cases op <;> first | exact .inl rfl | skip
  case append n b s x =>
    cases a
    · exact .inl rfl
    · exact .inr (.inl ⟨n,b,s,x,rfl,rfl,rfl⟩)
  case call f l =>
    cases c
    · exact .inl rfl
    · exact .inr (.inr ⟨f,l,rfl,rfl,rfl⟩)
omit [Glo] in
theorem awayOf_sort {a c : Bool} {op : AOp} (h : op.sort ≠ 3) : awayOf a c op = op := by
  rcases awayOf_cases a c op with h1 | ⟨n,b,s,x,rfl,_⟩ | ⟨f,l,rfl,_⟩
  · exact h1
  · exact absurd rfl h
  · exact absurd rfl h
def need (ops : Array Oper) (i k : Nat) : Prop := ((befores ops.toList []).getD i 0).testBit k = true
def sortO (P : Program) (o : Oper) : Nat := (opOf P o.op).sort
def Pair (P : Program) (ops : Array Oper) (pos : Nat → Nat) (i j : Nat) : Prop :=
  ∃ a c n b s x t f l,ops[i]? = some a ∧ ops[j]? = some c ∧ opOf P a.op = .append n b s x ∧ a.dst = some t ∧ opOf P c.op = .call f (.t t :: l) ∧ pos i < pos j ∧
    ∀ k o,ops[k]? = some o → sortO P o ≤ 1 ∨ pos k ≤ pos i ∨ (pos j ≤ pos k ∧ sortO P o = 3)
structure DF (P : Program) (ops : Array Oper) (aops : List AOper) (R : Nat) (pos back rank cnt : Nat → Nat) (fA fC : Nat → Bool) : Prop where
  fa : ∀ i,fA i = true → ∃ j,Pair P ops pos i j
  fc : ∀ j,fC j = true → ∃ i,Pair P ops pos i j ∧ fA i = true
  len : aops.length = ops.size
  at_ : ∀ (i : Nat) (o : Oper),ops[i]? = some o → ∃ g,guardOf ops o.guard = some g ∧ aops[pos i]? = some ⟨o.dst,awayOf (fA i) (fC i) (opOf P o.op),g,cond (Nat.beq (sortO P o) 1) (back i) 0,cond (Nat.beq (sortO P o) 2) (some (rank i)) none,Nat.beq (sortO P o) 3⟩
  lt : ∀ i,i < ops.size → pos i < ops.size
  onto : ∀ p,p < ops.size → ∃ i,i < ops.size ∧ pos i = p
  inj : ∀ i j,i < ops.size → j < ops.size → pos i = pos j → i = j
  bit : ∀ i j,i < ops.size → j < ops.size → need ops j i → i < j ∧ pos i < pos j
  dist : ∀ (i j : Nat) (a b : Oper) (t : Nat),i ≠ j → ops[i]? = some a → ops[j]? = some b → a.dst = some t → b.dst ≠ some t
  comp : ∀ (i j : Nat) (a b : Oper),i < j → ops[i]? = some a → ops[j]? = some b → need ops j i ∨ (¬ (sortO P a = 3 ∧ sortO P b = 3) ∧ (∀ t,a.dst = some t → t ∉ namesOf P ops b) ∧ (∀ t,b.dst = some t → t ∉ namesOf P ops a))
  late : ∀ (i e : Nat) (a b : Oper),ops[i]? = some a → ops[e]? = some b → sortO P a ≠ 3 → sortO P b = 3 → pos i < pos e → ∃ e' c,ops[e']? = some c ∧ sortO P c = 3 ∧ pos i < pos e' ∧ pos e' ≤ pos e ∧ need ops e' i
  win : ∀ (i : Nat) (a : Oper),ops[i]? = some a → sortO P a = 1 → 0 < back i ∧ ∀ (e : Nat) (b : Oper),ops[e]? = some b → sortO P b = 3 → pos e < pos i → back i ≤ cnt (pos i) - cnt (pos e) → need ops i e
  cnt_succ : ∀ (i : Nat) (a : Oper),ops[i]? = some a → cnt (pos i + 1) = cnt (pos i) + cond (Nat.beq (sortO P a) 3) 1 0
  rank_lt : ∀ (i : Nat) (a : Oper),ops[i]? = some a → sortO P a = 2 → rank i < R
  rank_inj : ∀ (i j : Nat) (a b : Oper),ops[i]? = some a → ops[j]? = some b → sortO P a = 2 → sortO P b = 2 → rank i = rank j → i = j
end Go.Am
