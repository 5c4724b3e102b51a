import Derived.Test.YthnaeifkngeenaaPostC3
/-
  Plain: what is counted, what is least, and how often. No statement of the seat is proved here.
-/
set_option linter.unusedVariables false
set_option linter.unusedSimpArgs false
namespace Go.Am.Post
open SR
instance : SR Nat where
  add := (· + ·)
  mul := (· * ·)
  zero := 0
  one := 1
  add_assoc := Nat.add_assoc
  add_comm := Nat.add_comm
  zero_add := Nat.zero_add
  mul_assoc := Nat.mul_assoc
  mul_comm := Nat.mul_comm
  one_mul := Nat.one_mul
  zero_mul := Nat.zero_mul
  mul_add := Nat.mul_add

/-- What is least. -/
abbrev MinP := Option Nat
def MinP.add : MinP → MinP → MinP
  | none, b => b
  | some a, none => some a
  | some a, some b => some (min a b)
def MinP.mul : MinP → MinP → MinP
  | some a, some b => some (a + b)
  | _, _ => none
instance : SR MinP where
  add := MinP.add
  mul := MinP.mul
  zero := none
  one := some 0
  add_assoc a b c := by cases a <;> cases b <;> cases c <;> simp [MinP.add] <;> omega
  add_comm a b := by cases a <;> cases b <;> simp [MinP.add] <;> omega
  zero_add a := by cases a <;> rfl
  mul_assoc a b c := by cases a <;> cases b <;> cases c <;> simp [MinP.mul] <;> omega
  mul_comm a b := by cases a <;> cases b <;> simp [MinP.mul] <;> omega
  one_mul a := by cases a <;> simp [MinP.mul]
  zero_mul a := by cases a <;> rfl
  mul_add a b c := by cases a <;> cases b <;> cases c <;> simp [MinP.mul, MinP.add] <;> omega

/-- What is least, and how often. -/
abbrev Few := Option (Nat × Nat)
def Few.add : Few → Few → Few
  | none, b => b
  | some a, none => some a
  | some a, some b => if a.1 < b.1 then some a else if b.1 < a.1 then some b else some (a.1, a.2 + b.2)
def Few.mul : Few → Few → Few
  | some a, some b => some (a.1 + b.1, a.2 * b.2)
  | _, _ => none
theorem Few.add_none (a : Few) : Few.add a none = a := by cases a <;> rfl
instance : SR Few where
  add := Few.add
  mul := Few.mul
  zero := none
  one := some (0, 1)
  add_assoc a b c := by
    cases a with
    | none => rfl
    | some a =>
      cases b with
      | none => rfl
      | some b =>
        cases c with
        | none => rw [Few.add_none, Few.add_none]
        | some c =>
          simp only [Few.add]
          by_cases h1 : a.1 < b.1 <;> by_cases h2 : b.1 < a.1 <;> by_cases h3 : b.1 < c.1 <;> by_cases h4 : c.1 < b.1 <;> by_cases h5 : a.1 < c.1 <;> by_cases h6 : c.1 < a.1 <;> first | (exfalso; omega) | (simp [h1, h2, h3, h4, h5, h6, Few.add]; done) | (simp [h1, h2, h3, h4, h5, h6, Few.add]; omega)
  add_comm a b := by
    cases a <;> cases b <;> simp only [Few.add]
    rename_i a b
    by_cases h1 : a.1 < b.1 <;> by_cases h2 : b.1 < a.1 <;> first | (exfalso; omega) | (simp [h1, h2]; try omega)
  zero_add a := by cases a <;> rfl
  mul_assoc a b c := by cases a <;> cases b <;> cases c <;> simp [Few.mul, Nat.mul_assoc] <;> omega
  mul_comm a b := by cases a <;> cases b <;> simp [Few.mul, Nat.mul_comm] <;> omega
  one_mul a := by cases a <;> simp [Few.mul]
  zero_mul a := by cases a <;> rfl
  mul_add a b c := by
    cases a <;> cases b <;> cases c <;> simp only [Few.mul, Few.add]
    rename_i a b c
    by_cases h1 : b.1 < c.1 <;> by_cases h2 : c.1 < b.1 <;> first | (exfalso; omega) | (simp [h1, h2, Nat.mul_add])

theorem minp_none (p : List Nat → Bool) (c : List Nat → Nat) : ∀ L : List (List Nat), (sumL (fun S => if p S then (some (c S) : MinP) else none) L = none ↔ ∀ l ∈ L, p l = false)
  | [] => by simp [sumL]; rfl
  | l :: r => by
    have ih := minp_none p c r
    simp only [sumL, List.mem_cons, forall_eq_or_imp]
    rw [← ih]
    cases h : p l
    · simp; rfl
    · simp only [if_true]
      generalize sumL (K := MinP) _ r = y
      cases y <;> simp [SR.add, MinP.add]
theorem minp_some (p : List Nat → Bool) (c : List Nat → Nat) : ∀ (L : List (List Nat)) (b : Nat), (sumL (fun S => if p S then (some (c S) : MinP) else none) L = some b ↔ (∃ l ∈ L, p l = true ∧ c l = b) ∧ ∀ l ∈ L, p l = true → b ≤ c l)
  | [], b => by simp [sumL, SR.zero]
  | l :: r, b => by
    have ih := minp_some p c r
    have ihn := minp_none p c r
    simp only [sumL, List.mem_cons, forall_eq_or_imp, exists_eq_or_imp]
    generalize sumL (fun S => if p S then (some (c S) : MinP) else none) r = y at *
    cases h : p l
    · simp only [Bool.false_eq_true, if_false, false_and, false_or, false_implies, true_and]
      rw [← ih b]
      cases y <;> simp [SR.add, MinP.add]
    · simp only [if_true, true_and, forall_const]
      cases y with
      | none =>
        have hn := ihn.1 rfl
        simp only [SR.add, MinP.add, Option.some.injEq]
        constructor
        · rintro rfl
          exact ⟨.inl rfl, Nat.le_refl _, fun l' hl' hp => by rw [hn l' hl'] at hp; cases hp⟩
        · rintro ⟨h1 | ⟨l', hl', hp, _⟩, _⟩
          · exact h1
          · rw [hn l' hl'] at hp; cases hp
      | some y =>
        obtain ⟨⟨l', hl', hp', e'⟩, h2⟩ := (ih y).1 rfl
        simp only [SR.add, MinP.add, Option.some.injEq]
        constructor
        · rintro rfl
          refine ⟨?_, Nat.min_le_left _ _, fun q hq hpq => Nat.le_trans (Nat.min_le_right _ _) (h2 q hq hpq)⟩
          by_cases hc : c l ≤ y
          · left; omega
          · right; exact ⟨l', hl', hp', by omega⟩
        · rintro ⟨h1, h3, h4⟩
          have := h4 l' hl' hp'
          rcases h1 with h1 | ⟨q, hq, hpq, e⟩
          · omega
          · have := h2 q hq hpq; omega
end Go.Am.Post

/-
  Plain: ascending lists; the first one that is as good as can be is found place by place. No statement of the seat is proved here.
-/
set_option linter.unusedVariables false
set_option linter.unusedSimpArgs false
namespace Go.Am.Post
open SR

/-- Ascending, from a number on. -/
def up : Nat → List Nat → Prop
  | _, [] => True
  | i, x :: r => i ≤ x ∧ up (x + 1) r
theorem up_le {i j : Nat} (h : i ≤ j) : ∀ {l : List Nat}, up j l → up i l
  | [], _ => trivial
  | x :: r, ⟨a, b⟩ => ⟨by omega, b⟩
theorem up_ge : ∀ {l : List Nat} {i : Nat}, up i l → ∀ x ∈ l, i ≤ x
  | [], _, _, x, h => by cases h
  | y :: r, i, ⟨a, b⟩, x, h => by
    rcases List.mem_cons.1 h with rfl | h
    · exact a
    · have := up_ge b x h; omega
theorem mem_asc (d : Nat) : ∀ (i : Nat) (l : List Nat), l ∈ asc i d ↔ up i l ∧ ∀ x ∈ l, x < i + d := by
  induction d with
  | zero =>
    intro i l
    simp only [asc, List.mem_singleton]
    constructor
    · rintro rfl; simp [up]
    · rintro ⟨h1, h2⟩
      cases l with
      | nil => rfl
      | cons x r => have := h2 x (by simp); have := h1.1; omega
  | succ d ih =>
    intro i l
    have hh : l ∈ asc i (d + 1) ↔ l ∈ (asc (i + 1) d).map (i :: ·) ∨ l ∈ asc (i + 1) d := by
      rw [show asc i (d + 1) = [] :: ((asc (i + 1) d).map (i :: ·) ++ (asc (i + 1) d).tail) from rfl]
      conv => rhs; rhs; rw [asc_head]
      simp only [List.mem_cons, List.mem_append]
      constructor
      · rintro (h | h | h)
        · exact .inr (.inl h)
        · exact .inl h
        · exact .inr (.inr h)
      · rintro (h | h | h)
        · exact .inr (.inl h)
        · exact .inl h
        · exact .inr (.inr h)
    rw [hh, List.mem_map, ih]
    constructor
    · rintro (⟨l', h, rfl⟩ | h)
      · rw [ih] at h
        exact ⟨⟨Nat.le_refl _, h.1⟩, fun x hx => by
          rcases List.mem_cons.1 hx with rfl | hx
          · omega
          · have := h.2 x hx; omega⟩
      · exact ⟨up_le (by omega) h.1, fun x hx => by have := h.2 x hx; omega⟩
    · rintro ⟨h1, h2⟩
      cases l with
      | nil => right; exact ⟨trivial, by simp⟩
      | cons x r =>
        by_cases e : x = i
        · subst e
          left
          refine ⟨r, (ih _ _).2 ⟨h1.2, fun y hy => ?_⟩, rfl⟩
          have := h2 y (by simp [hy]); omega
        · right
          refine ⟨⟨by have := h1.1; omega, h1.2⟩, fun y hy => ?_⟩
          have := h2 y hy; omega
theorem up_ext : ∀ {a b : List Nat} {i : Nat}, up i a → up i b → (∀ x, x ∈ a ↔ x ∈ b) → a = b
  | [], [], _, _, _, _ => rfl
  | [], y :: s, _, _, _, h => by have := (h y).2 (by simp); cases this
  | x :: r, [], _, _, _, h => by have := (h x).1 (by simp); cases this
  | x :: r, y :: s, i, ⟨a1, a2⟩, ⟨b1, b2⟩, h => by
    have e : x = y := by
      have h1 := (h x).1 (by simp)
      have h2 := (h y).2 (by simp)
      rcases List.mem_cons.1 h1 with h1 | h1
      · exact h1
      · rcases List.mem_cons.1 h2 with h2 | h2
        · exact h2.symm
        · have := up_ge b2 x h1; have := up_ge a2 y h2; omega
    subst e
    rw [up_ext a2 b2 fun z => ?_]
    have := h z
    simp only [List.mem_cons] at this
    constructor
    · intro hz
      rcases this.1 (.inr hz) with rfl | h'
      · have := up_ge a2 z hz; omega
      · exact h'
    · intro hz
      rcases this.2 (.inr hz) with rfl | h'
      · have := up_ge b2 z hz; omega
      · exact h'
theorem up_append : ∀ {a b : List Nat} {i j : Nat}, up i a → (∀ x ∈ a, x < j) → up j b → i ≤ j → up i (a ++ b)
  | [], b, i, j, _, _, hb, hij => up_le hij hb
  | x :: r, b, i, j, ⟨a1, a2⟩, h, hb, hij => ⟨a1, up_append a2 (fun y hy => h y (by simp [hy])) hb (by have := h x (by simp); omega)⟩
theorem up_filter (p : Nat → Bool) : ∀ {l : List Nat} {i : Nat}, up i l → up i (l.filter p)
  | [], _, _ => trivial
  | x :: r, i, ⟨a, b⟩ => by
    rw [List.filter_cons]
    split
    · exact ⟨a, up_filter p b⟩
    · exact up_le (by omega) (up_filter p b)
theorem up_split (j : Nat) : ∀ {l : List Nat} {i : Nat}, up i l → l = l.filter (fun x => decide (x < j)) ++ l.filter (fun x => decide (j ≤ x))
  | [], _, _ => rfl
  | x :: r, i, ⟨a, b⟩ => by
    by_cases h : x < j
    · conv => lhs; rw [up_split j b]
      simp [h, Nat.not_le.2 h]
    · have h1 : r.filter (fun x => decide (x < j)) = [] := by
        rw [List.filter_eq_nil_iff]; intro y hy; have := up_ge b y hy; simp; omega
      have h2 : r.filter (fun x => decide (j ≤ x)) = r := by
        rw [List.filter_eq_self]; intro y hy; have := up_ge b y hy; simp; omega
      simp [h, Nat.not_lt.1 h, h1, h2]

/-! ### The first one place by place -/
/-- What is known of some tests: is there something good with just these; is there something good with these, and one more. -/
def firstG (here : List Nat → Nat → Bool) (more : List Nat → Nat → Bool) : Nat → Nat → List Nat → List Nat
  | 0, _, M => M
  | d + 1, i, M => if here M i then M else if more M i then firstG here more d (i + 1) (M ++ [i]) else firstG here more d (i + 1) M
theorem find_map {α β} (p : β → Bool) (g : α → β) : ∀ l : List α, (l.map g).find? p = (l.find? fun x => p (g x)).map g
  | [] => rfl
  | a :: r => by simp only [List.map_cons, List.find?_cons, find_map p g r]; cases p (g a) <;> rfl
theorem first_ok (n : Nat) (good : List Nat → Bool) (here more : List Nat → Nat → Bool)
    (hh : ∀ i M, i < n → M ∈ asc 0 i → (here M i = true ↔ good M = true))
    (hm : ∀ i M, i < n → M ∈ asc 0 i → (more M i = true ↔ ∃ S ∈ asc (i + 1) (n - (i + 1)), good (M ++ i :: S) = true)) (d : Nat) :
    ∀ i M, i + d = n → M ∈ asc 0 i → (∃ S ∈ asc i d, good (M ++ S) = true) → ∃ S, (asc i d).find? (fun S => good (M ++ S)) = some S ∧ firstG here more d i M = M ++ S := by
  induction d with
  | zero =>
    rintro i M hi hM ⟨S, hS, hg⟩
    simp only [asc, List.mem_singleton] at hS
    subst hS
    exact ⟨[], by simpa [asc] using hg, by simp [firstG]⟩
  | succ d ih =>
    rintro i M hi hM ⟨S, hS, hg⟩
    have hMm := (mem_asc _ _ _).1 hM
    rw [show asc i (d + 1) = [] :: ((asc (i + 1) d).map (i :: ·) ++ (asc (i + 1) d).tail) from rfl, firstG]
    cases h1 : good M
    · have e1 : here M i = false := by
        rw [Bool.eq_false_iff]; intro h; rw [(hh i M (by omega) hM).1 h] at h1; cases h1
      have e2 := hm i M (by omega) hM
      rw [show n - (i + 1) = d by omega] at e2
      have h1' : good (M ++ []) = false := by rw [List.append_nil]; exact h1
      have htail : (asc (i + 1) d).find? (fun S => good (M ++ S)) = (asc (i + 1) d).tail.find? (fun S => good (M ++ S)) := by
        conv => lhs; rw [asc_head]
        rw [List.find?_cons, h1']
      simp only [e1, Bool.false_eq_true, if_false, List.find?_cons, h1', List.find?_append, find_map]
      by_cases h2 : more M i = true
      · obtain ⟨S', hS', hg'⟩ := e2.1 h2
        obtain ⟨S0, f1, f2⟩ := ih (i + 1) (M ++ [i]) (by omega) ((mem_asc _ _ _).2 ⟨up_append hMm.1 (fun x hx => by have := hMm.2 x hx; omega) (show up i [i] from ⟨Nat.le_refl _, trivial⟩) (by omega), fun x hx => by
          rcases List.mem_append.1 hx with hx | hx
          · have := hMm.2 x hx; omega
          · simp at hx; omega⟩) ⟨S', hS', by simpa using hg'⟩
        refine ⟨i :: S0, ?_, by rw [if_pos h2, f2]; simp⟩
        simp only [List.append_assoc, List.singleton_append] at f1
        rw [f1]; rfl
      · have hno : ∀ S ∈ asc (i + 1) d, good (M ++ i :: S) = false := fun S hS => by
          rw [Bool.eq_false_iff]; intro h; exact h2 (e2.2 ⟨S, hS, h⟩)
        have hf : (asc (i + 1) d).find? (fun x => good (M ++ i :: x)) = none := by
          rw [List.find?_eq_none]; intro x hx; simp [hno x hx]
        have hex : ∃ S ∈ asc (i + 1) d, good (M ++ S) = true := by
          have hS' := (mem_asc _ _ _).1 hS
          cases S with
          | nil => rw [List.append_nil, h1] at hg; cases hg
          | cons x r =>
            by_cases e : x = i
            · subst e
              rw [hno r ((mem_asc _ _ _).2 ⟨hS'.1.2, fun y hy => by have := hS'.2 y (by simp [hy]); omega⟩)] at hg; cases hg
            · exact ⟨x :: r, (mem_asc _ _ _).2 ⟨⟨by have := hS'.1.1; omega, hS'.1.2⟩, fun y hy => by have := hS'.2 y hy; omega⟩, hg⟩
        obtain ⟨S0, f1, f2⟩ := ih (i + 1) M (by omega) ((mem_asc _ _ _).2 ⟨hMm.1, fun x hx => by have := hMm.2 x hx; omega⟩) hex
        refine ⟨S0, ?_, by rw [if_neg h2, f2]⟩
        rw [hf, ← htail, f1]; rfl
    · rw [if_pos ((hh i M (by omega) hM).2 h1)]
      exact ⟨[], by simp [h1], by simp⟩
end Go.Am.Post

/-
  Plain: the cheapest posts, place by place. No statement of the seat is proved here.
-/
set_option linter.unusedVariables false
set_option linter.unusedSimpArgs false
namespace Go.Am.Post
open SR
variable (par : Nat → Nat) (n : Nat) (price : Nat → Nat)

def dom (S : List Nat) : Bool := allN (okS par (fun _ => false) (fun _ => false) S) n
def cost (S : List Nat) : Nat := (S.map price).sum
def cst (S : List Nat) : Nat → Nat
  | 0 => 0
  | k + 1 => cst S k + if k ∈ S then price k else 0
theorem cst_append (S : List Nat) (x : Nat) (hx : x ∉ S) : ∀ k, cst price (S ++ [x]) k = cst price S k + if x < k then price x else 0
  | 0 => by simp [cst]
  | k + 1 => by
    rw [cst, cst, cst_append S x hx k]
    by_cases h : k = x
    · subst h; simp [hx]
    · have : (x < k + 1) = (x < k) := by rw [eq_iff_iff]; omega
      simp only [List.mem_append, List.mem_singleton, h, or_false, this]; omega
theorem cst_cost (k : Nat) (S : List Nat) (h : S ∈ asc 0 k) : cst price S k = cost price S := by
  induction k generalizing S with
  | zero => simp [asc] at h; subst h; simp [cst, cost]
  | succ k ih =>
    have hm := (mem_asc _ _ _).1 h
    by_cases hk : k ∈ S
    · have e : S = S.filter (fun x => decide (x < k)) ++ [k] := by
        have h1 := up_split k hm.1
        have h2 : S.filter (fun x => decide (k ≤ x)) = [k] := by
          refine up_ext (i := 0) (up_filter _ hm.1) (b := [k]) ⟨by omega, trivial⟩ fun x => ?_
          simp only [List.mem_filter, decide_eq_true_eq, List.mem_singleton]
          constructor
          · rintro ⟨a, b⟩; have := hm.2 x a; omega
          · rintro rfl; exact ⟨hk, Nat.le_refl _⟩
        rw [h2] at h1; exact h1
      have h0 : S.filter (fun x => decide (x < k)) ∈ asc 0 k := (mem_asc _ _ _).2 ⟨up_filter _ hm.1, fun x hx => by simp at hx; omega⟩
      have hn : k ∉ S.filter (fun x => decide (x < k)) := by simp
      have := ih _ h0
      rw [e, cst, cst_append _ _ _ hn, this]
      simp [cost]
    · rw [cst, if_neg hk, ih S ((mem_asc _ _ _).2 ⟨hm.1, fun x hx => by
        have := hm.2 x hx
        have : x ≠ k := fun e => hk (e ▸ hx)
        omega⟩)]
      simp
theorem costN_minp (S : List Nat) : ∀ k, costN (K := MinP) (fun v => some (price v)) S k = some (cst price S k)
  | 0 => rfl
  | k + 1 => by
    have := costN_minp S k
    unfold costN at *
    rw [prodN, this, cst]
    by_cases h : k ∈ S
    · simp [h, SR.mul, MinP.mul]
    · simp [h, SR.mul, MinP.mul, SR.one]
theorem okS_iff (must mustNot : Nat → Bool) (S : List Nat) : allN (okS par must mustNot S) n = true ↔ dom par n S = true ∧ (∀ v, v < n → must v = true → v ∈ S) ∧ (∀ v, v < n → v ∈ S → mustNot v = false) := by
  unfold dom
  rw [allN_iff, allN_iff]
  constructor
  · intro h
    refine ⟨fun v hv => ?_, fun v hv hm => ?_, fun v hv hm => ?_⟩
    · have := h v hv
      unfold okS at *
      split at this <;> simp_all
    · have := h v hv
      unfold okS at this
      split at this
      · assumption
      · simp [hm] at this
    · have := h v hv
      unfold okS at this
      simpa [hm] using this
  · rintro ⟨h1, h2, h3⟩ v hv
    have a := h1 v hv
    unfold okS at *
    by_cases hS : v ∈ S
    · simp [hS, h3 v hv hS]
    · have : must v = false := by rw [Bool.eq_false_iff]; intro h; exact hS (h2 v hv h)
      simp only [hS, if_false, this] at *
      exact a
/-- The least cost of posts that guard, with some and without others. -/
def wh (must mustNot : Nat → Bool) : MinP := sumL (fun S => if allN (okS par must mustNot S) n then (some (cost price S) : MinP) else none) (asc 0 n)
theorem wh_some (must mustNot : Nat → Bool) (b : Nat) : wh par n price must mustNot = some b ↔ (∃ S ∈ asc 0 n, (dom par n S = true ∧ (∀ v, v < n → must v = true → v ∈ S) ∧ (∀ v, v < n → v ∈ S → mustNot v = false)) ∧ cost price S = b) ∧ ∀ S ∈ asc 0 n, (dom par n S = true ∧ (∀ v, v < n → must v = true → v ∈ S) ∧ (∀ v, v < n → v ∈ S → mustNot v = false)) → b ≤ cost price S := by
  unfold wh
  rw [minp_some (fun S => allN (okS par must mustNot S) n)]
  simp only [okS_iff]
theorem wh_none (must mustNot : Nat → Bool) : wh par n price must mustNot = none ↔ ∀ S ∈ asc 0 n, ¬ (dom par n S = true ∧ (∀ v, v < n → must v = true → v ∈ S) ∧ (∀ v, v < n → v ∈ S → mustNot v = false)) := by
  unfold wh
  rw [minp_none (fun S => allN (okS par must mustNot S) n)]
  constructor
  · intro h S hS hc
    rw [← okS_iff] at hc
    rw [h S hS] at hc; cases hc
  · intro h S hS
    rw [Bool.eq_false_iff]; intro hc
    exact h S hS ((okS_iff _ _ _ _ _).1 hc)

def all (n : Nat) : List Nat := List.range n
theorem up_range' : ∀ (d i : Nat), up i (List.range' i d)
  | 0, _ => trivial
  | d + 1, i => ⟨Nat.le_refl _, up_range' d (i + 1)⟩
theorem range_asc : List.range n ∈ asc 0 n := (mem_asc _ _ _).2 ⟨by rw [List.range_eq_range']; exact up_range' n 0, fun x hx => by simpa using hx⟩
theorem dom_range : dom par n (List.range n) = true := by
  rw [dom, allN_iff]
  intro v hv
  simp [okS, hv]
/-- There is a least cost. -/
theorem wh_best : ∃ b, wh par n price (fun _ => false) (fun _ => false) = some b ∧ b ≤ cost price (List.range n) := by
  cases h : wh par n price (fun _ => false) (fun _ => false) with
  | none => exact absurd ⟨dom_range par n, by simp, by simp⟩ ((wh_none _ _ _ _ _).1 h _ (range_asc n))
  | some b => exact ⟨b, rfl, ((wh_some _ _ _ _ _ b).1 h).2 _ (range_asc n) ⟨dom_range par n, by simp, by simp⟩⟩

def goodC (b : Nat) (S : List Nat) : Bool := dom par n S && decide (cost price S = b)
def hereC (b : Nat) (M : List Nat) (i : Nat) : Bool := decide (wh par n price (fun v => decide (v ∈ M)) (fun v => decide (v ∉ M)) = some b)
def moreC (b : Nat) (M : List Nat) (i : Nat) : Bool := decide (wh par n price (fun v => decide (v ∈ M ∨ v = i)) (fun v => decide (v < i ∧ v ∉ M)) = some b)
theorem hereC_ok (b : Nat) (hb : wh par n price (fun _ => false) (fun _ => false) = some b) (i : Nat) (M : List Nat) (hi : i < n) (hM : M ∈ asc 0 i) : hereC par n price b M i = true ↔ goodC par n price b M = true := by
  have hMm := (mem_asc _ _ _).1 hM
  have hmin := ((wh_some _ _ _ _ _ _).1 hb).2
  unfold hereC goodC
  rw [decide_eq_true_eq, wh_some, Bool.and_eq_true, decide_eq_true_eq]
  constructor
  · rintro ⟨⟨S, hS, ⟨h1, h2, h3⟩, h4⟩, _⟩
    have e : S = M := up_ext ((mem_asc _ _ _).1 hS).1 hMm.1 fun x => by
      constructor
      · intro hx
        have := h3 x (by have := ((mem_asc _ _ _).1 hS).2 x hx; omega) hx
        simpa using this
      · intro hx; exact h2 x (by have := hMm.2 x hx; omega) (by simpa using hx)
    subst e
    exact ⟨h1, h4⟩
  · rintro ⟨h1, h2⟩
    refine ⟨⟨M, (mem_asc _ _ _).2 ⟨hMm.1, fun x hx => by have := hMm.2 x hx; omega⟩, ⟨h1, fun v _ hv => by simpa using hv, fun v _ hv => by simpa using hv⟩, h2⟩, fun S hS ⟨h3, _, _⟩ => hmin S hS ⟨h3, by simp, by simp⟩⟩
theorem moreC_ok (b : Nat) (hb : wh par n price (fun _ => false) (fun _ => false) = some b) (i : Nat) (M : List Nat) (hi : i < n) (hM : M ∈ asc 0 i) : moreC par n price b M i = true ↔ ∃ S ∈ asc (i + 1) (n - (i + 1)), goodC par n price b (M ++ i :: S) = true := by
  have hMm := (mem_asc _ _ _).1 hM
  have hmin := ((wh_some _ _ _ _ _ _).1 hb).2
  unfold moreC
  rw [decide_eq_true_eq, wh_some]
  constructor
  · rintro ⟨⟨S, hS, ⟨h1, h2, h3⟩, h4⟩, _⟩
    have hSm := (mem_asc _ _ _).1 hS
    have e1 : S.filter (fun x => decide (x < i)) = M := up_ext (up_filter _ hSm.1) hMm.1 fun x => by
      simp only [List.mem_filter, decide_eq_true_eq]
      constructor
      · rintro ⟨hx, hl⟩
        have := h3 x (by omega) hx
        simp only [decide_eq_false_iff_not] at this
        by_cases hxM : x ∈ M
        · exact hxM
        · exact absurd ⟨hl, hxM⟩ this
      · intro hx
        have := hMm.2 x hx
        exact ⟨h2 x (by omega) (by simp [hx]), by omega⟩
    have e2 : S.filter (fun x => decide (i ≤ x)) = i :: S.filter (fun x => decide (i + 1 ≤ x)) := by
      refine up_ext (i := 0) (up_filter _ hSm.1) ⟨by omega, ?_⟩ fun x => ?_
      · have : ∀ {l : List Nat} {j : Nat}, up j l → (∀ x ∈ l, i + 1 ≤ x) → up (i + 1) l := by
          intro l j h hl
          cases l with
          | nil => trivial
          | cons y r => exact ⟨hl y (by simp), h.2⟩
        exact this (up_filter _ hSm.1) fun x hx => by simp at hx; omega
      · simp only [List.mem_filter, decide_eq_true_eq, List.mem_cons]
        constructor
        · rintro ⟨hx, hl⟩
          by_cases e : x = i
          · exact .inl e
          · exact .inr ⟨hx, by omega⟩
        · rintro (rfl | ⟨hx, hl⟩)
          · exact ⟨h2 x hi (by simp), Nat.le_refl _⟩
          · exact ⟨hx, by omega⟩
    have e := up_split i hSm.1
    rw [e1, e2] at e
    refine ⟨S.filter (fun x => decide (i + 1 ≤ x)), (mem_asc _ _ _).2 ⟨?_, fun x hx => ?_⟩, ?_⟩
    · have := up_filter (fun x => decide (i ≤ x)) hSm.1
      rw [e2] at this
      exact this.2
    · simp only [List.mem_filter, decide_eq_true_eq] at hx
      have := hSm.2 x hx.1; omega
    · rw [← e, goodC, h1, h4]; simp
  · rintro ⟨S, hS, hg⟩
    have hSm := (mem_asc _ _ _).1 hS
    simp only [goodC, Bool.and_eq_true, decide_eq_true_eq] at hg
    refine ⟨⟨M ++ i :: S, (mem_asc _ _ _).2 ⟨up_append hMm.1 (fun x hx => by have := hMm.2 x hx; omega) (show up i (i :: S) from ⟨Nat.le_refl _, hSm.1⟩) (by omega), fun x hx => ?_⟩, ⟨hg.1, fun v _ hv => ?_, fun v _ hv => ?_⟩, hg.2⟩, fun S hS ⟨h3, _, _⟩ => hmin S hS ⟨h3, by simp, by simp⟩⟩
    · simp only [List.mem_append, List.mem_cons] at hx
      rcases hx with hx | rfl | hx
      · have := hMm.2 x hx; omega
      · omega
      · have := hSm.2 x hx; omega
    · simp only [decide_eq_true_eq] at hv
      rcases hv with hv | rfl <;> simp [*]
    · simp only [decide_eq_false_iff_not]
      rintro ⟨hl, hvM⟩
      simp only [List.mem_append, List.mem_cons] at hv
      rcases hv with hv | rfl | hv
      · exact hvM hv
      · omega
      · have := up_ge hSm.1 v hv; omega
/-- The first of the cheapest posts. -/
theorem firstC_ok (b : Nat) (hb : wh par n price (fun _ => false) (fun _ => false) = some b) : (asc 0 n).find? (goodC par n price b) = some (firstG (hereC par n price b) (moreC par n price b) n 0 []) := by
  obtain ⟨⟨S, hS, ⟨h1, _⟩, h2⟩, _⟩ := (wh_some _ _ _ _ _ _).1 hb
  obtain ⟨S0, f1, f2⟩ := first_ok n (goodC par n price b) _ _ (hereC_ok par n price b hb) (moreC_ok par n price b hb) n 0 [] (by omega) (by simp [asc]) ⟨S, hS, by simp [goodC, h1, h2]⟩
  rw [f2]
  simpa using f1
end Go.Am.Post


