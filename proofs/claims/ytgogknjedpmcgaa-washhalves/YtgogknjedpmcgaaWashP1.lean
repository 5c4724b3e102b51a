/-
  Plain: tides, and what is found about them; all tides of at most seven places are tried by the kernel. No statement of the seat is proved here.
-/
import Derived.KernelRfl
set_option linter.unusedVariables false
set_option linter.unusedSimpArgs false
namespace Go.Am.Wash

def nth : List Nat → Nat → Nat
  | [], _ => 0
  | a :: _, 0 => a
  | _ :: r, i + 1 => nth r i
def hasN : List Nat → Nat → Bool
  | [], _ => false
  | a :: r, x => cond (Nat.beq a x) true (hasN r x)
def permsC (n : Nat) (f : List Nat → List (List Nat)) (b : List Nat) : Nat → Nat → List (List Nat)
  | 0, _ => []
  | k + 1, x => (cond (hasN b x) [] (f (b ++ [x]))) ++ permsC n f b k (x + 1)
/-- All tides of n places that begin with some numbers, d numbers missing, in ascending order. -/
def perms (n : Nat) : Nat → List Nat → List (List Nat)
  | 0, b => [b]
  | d + 1, b => permsC n (perms n d) b n 0
/-- Is something so of all of these? -/
def allC (f : List Nat → Bool) (b : List Nat) : Nat → Nat → Bool
  | 0, _ => true
  | k + 1, x => cond (cond (hasN b x) true (f (b ++ [x]))) (allC f b k (x + 1)) false
def allP (n : Nat) (P : List Nat → Bool) : Nat → List Nat → Bool
  | 0, b => P b
  | d + 1, b => allC (allP n P d) b n 0

theorem nth_getD : ∀ (l : List Nat) (i : Nat), nth l i = l.getD i 0
  | [], _ => by simp [nth]
  | a :: _, 0 => by simp [nth]
  | a :: r, i + 1 => by rw [nth, nth_getD r i, List.getD_cons_succ]
theorem hasN_iff : ∀ (l : List Nat) (x : Nat), hasN l x = true ↔ x ∈ l
  | [], x => by simp [hasN]
  | a :: r, x => by
    rw [hasN]
    by_cases h : a = x
    · subst h; simp
    · have : Nat.beq a x = false := by rw [Bool.eq_false_iff]; intro c; exact h (Nat.eq_of_beq_eq_true c)
      have h' : ¬ x = a := fun c => h c.symm
      simp [this, hasN_iff r x, h']
theorem allC_iff (f : List Nat → Bool) (b : List Nat) (k : Nat) : ∀ x, allC f b k x = true ↔ ∀ y, x ≤ y → y < x + k → y ∉ b → f (b ++ [y]) = true := by
  induction k with
  | zero => intro x; simp [allC]; intros; omega
  | succ k ih =>
    intro x
    have hx := hasN_iff b x
    rw [allC]
    cases h : hasN b x
    · have hb : x ∉ b := fun c => by rw [hx.2 c] at h; cases h
      cases hf : f (b ++ [x])
      · simp only [cond_false, Bool.false_eq_true, false_iff]
        intro c
        have := c x (Nat.le_refl _) (by omega) hb
        rw [hf] at this; cases this
      · simp only [cond_false, cond_true, ih]
        constructor
        · intro c y h1 h2 h3
          by_cases e : y = x
          · subst e; exact hf
          · exact c y (by omega) (by omega) h3
        · intro c y h1 h2 h3; exact c y (by omega) (by omega) h3
    · have hb : x ∈ b := hx.1 h
      simp only [cond_true, ih]
      constructor
      · intro c y h1 h2 h3
        by_cases e : y = x
        · subst e; exact absurd hb h3
        · exact c y (by omega) (by omega) h3
      · intro c y h1 h2 h3; exact c y (by omega) (by omega) h3
/-- A tide. -/
def Tide (n : Nat) (t : List Nat) : Prop := t.length = n ∧ t.Nodup ∧ ∀ x ∈ t, x < n
theorem allP_ok (n : Nat) (P : List Nat → Bool) (d : Nat) : ∀ (b : List Nat), allP n P d b = true → ∀ r, r.length = d → (b ++ r).Nodup → (∀ x ∈ b ++ r, x < n) → P (b ++ r) = true := by
  induction d with
  | zero => intro b h r hr _ _; rw [List.length_eq_zero_iff.1 hr, List.append_nil]; exact h
  | succ d ih =>
    intro b h r hr hn hx
    cases r with
    | nil => simp at hr
    | cons y r =>
      have h1 := (allC_iff _ _ _ _).1 h y (by omega) (by have := hx y (by simp); omega) (by
        intro c
        have := List.nodup_append.1 hn
        exact this.2.2 y c y (by simp) rfl)
      have := ih (b ++ [y]) h1 r (by simpa using hr) (by simpa using hn) (by simpa using hx)
      simpa using this
theorem tide_all {n : Nat} {P : List Nat → Bool} (h : allP n P n [] = true) {t : List Nat} (ht : Tide n t) : P t = true := by
  have := allP_ok n P n [] h t ht.1 (by simpa using ht.2.1) (by simpa using ht.2.2)
  simpa using this

/-! ### Rings -/
def walkF (t : List Nat) : Nat → Nat → Nat → List Nat → Option (List Nat × Nat)
  | 0, _, _, _ => none
  | f + 1, met, p, l => cond (Nat.beq (met / 2 ^ p % 2) 0) (cond (Nat.blt p t.length) (walkF t f (met ||| 2 ^ p) (nth t p) (l ++ [p])) none) (some (l, met))
def addRow (out : List (List Nat)) : List Nat → List (List Nat)
  | [] => out
  | l => out ++ [l]
def ringsG (t : List Nat) : Nat → Nat → Nat → List (List Nat) → Option (List (List Nat))
  | 0, _, _, out => some out
  | n + 1, k, met, out => match walkF t 9 met k [] with
    | some (l, met') => ringsG t n (k + 1) met' (addRow out l)
    | none => none
def ringsP (t : List Nat) : Option (List (List Nat)) := ringsG t t.length 0 0 []
def rgF (t : List Nat) (p : Nat) : Nat → Nat → List Nat → Option (List Nat)
  | 0, _, _ => none
  | f + 1, q, out => cond (Nat.beq q p) (some out) (cond (Nat.blt q t.length) (rgF t p f (nth t q) (out ++ [q])) none)
def ringR (t : List Nat) (p : Nat) : Option (List Nat) := rgF t p 9 (nth t p) [p]
def minL : Nat → List Nat → Nat
  | x, [] => x
  | x, y :: r => minL (cond (Nat.blt y x) y x) r
def ringsH (t : List Nat) : Nat → Nat → List (List Nat) → Option (List (List Nat))
  | 0, _, out => some out
  | n + 1, p, out => match ringR t p with
    | some l => ringsH t n (p + 1) (cond (Nat.beq (minL p l) p) (out ++ [l]) out)
    | none => none
def ringsR (t : List Nat) : Option (List (List Nat)) := ringsH t t.length 0 []
def eqN : List Nat → List Nat → Bool
  | [], [] => true
  | a :: r, b :: s => cond (Nat.beq a b) (eqN r s) false
  | _, _ => false
def eqNN : List (List Nat) → List (List Nat) → Bool
  | [], [] => true
  | a :: r, b :: s => cond (eqN a b) (eqNN r s) false
  | _, _ => false
theorem eqN_ok : ∀ a b : List Nat, eqN a b = true → a = b
  | [], [], _ => rfl
  | [], _ :: _, h => by cases h
  | _ :: _, [], h => by cases h
  | a :: r, b :: s, h => by
    rw [eqN] at h
    cases hb : Nat.beq a b
    · rw [hb] at h; cases h
    · rw [hb] at h
      rw [Nat.eq_of_beq_eq_true hb, eqN_ok r s h]
theorem eqNN_ok : ∀ a b : List (List Nat), eqNN a b = true → a = b
  | [], [], _ => rfl
  | [], _ :: _, h => by cases h
  | _ :: _, [], h => by cases h
  | a :: r, b :: s, h => by
    rw [eqNN] at h
    cases hb : eqN a b
    · rw [hb] at h; cases h
    · rw [hb] at h
      rw [eqN_ok a b hb, eqNN_ok r s h]
def both : Option (List (List Nat)) → Option (List (List Nat)) → Bool
  | some a, some b => eqNN a b
  | _, _ => false
end Go.Am.Wash

