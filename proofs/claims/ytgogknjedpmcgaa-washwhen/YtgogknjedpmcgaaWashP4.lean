/-
  Plain: what is known of each tide; where things are after any number of tides. No statement of the seat is proved here.
-/
import Derived.Test.YtgogknjedpmcgaaWashQ0
set_option linter.unusedVariables false
set_option linter.unusedSimpArgs false
namespace Go.Am.Wash

/-- What was found about a tide: its rings, and when all is back. -/
structure Known (t : List Nat) (R : List (List Nat)) (n : Nat) : Prop where
  hp : ringsP t = some R
  hr : ringsR t = some R
  h0 : 0 < R.length
  h8 : R.length < 8
  bk : bkF t (idN t.length 0) 20 1 t = some n
  ba : backA R 6 2 1 = some n
  n100 : n < 100
  rows : ∀ l ∈ R, 0 < l.length ∧ l.length < 8 ∧ n % l.length = 0 ∧ ∀ x ∈ l, x < t.length
  cov : ∀ x, x < t.length → ∃ l ∈ R, x ∈ l
theorem cond_split {a b : Bool} (h : cond a b false = true) : a = true ∧ b = true := by cases a <;> cases b <;> simp_all
theorem allB_iff (p : List Nat → Bool) : ∀ R : List (List Nat), allB p R = true → ∀ l ∈ R, p l = true
  | [], _, l, hl => by cases hl
  | a :: r, h, l, hl => by
    obtain ⟨h1, h2⟩ := cond_split h
    rcases List.mem_cons.1 hl with rfl | hl
    · exact h1
    · exact allB_iff p r h2 l hl
theorem allN_iff (p : Nat → Bool) : ∀ R : List Nat, allN p R = true → ∀ l ∈ R, p l = true
  | [], _, l, hl => by cases hl
  | a :: r, h, l, hl => by
    obtain ⟨h1, h2⟩ := cond_split h
    rcases List.mem_cons.1 hl with rfl | hl
    · exact h1
    · exact allN_iff p r h2 l hl
theorem anyHas_iff : ∀ (R : List (List Nat)) (x : Nat), anyHas R x = true → ∃ l ∈ R, x ∈ l
  | [], x, h => by cases h
  | l :: r, x, h => by
    rw [anyHas] at h
    cases c : hasN l x
    · rw [c, cond_false] at h
      obtain ⟨l', h1, h2⟩ := anyHas_iff r x h
      exact ⟨l', by simp [h1], h2⟩
    · exact ⟨l, by simp, (hasN_iff l x).1 c⟩
theorem idN_eq (n : Nat) : ∀ k, idN n k = List.range' k n := by
  induction n with
  | zero => intro k; rfl
  | succ n ih => intro k; rw [idN, ih, List.range'_succ]
theorem blt_lt {a b : Nat} (h : Nat.blt a b = true) : a < b := by
  have : Nat.ble (a + 1) b = true := h
  rw [Nat.ble_eq] at this; omega
theorem known {t : List Nat} (h : Tide t.length t) (h1 : 1 ≤ t.length) (h7 : t.length ≤ 7) : ∃ R n, Known t R n := by
  have hc := chk_all h h1 h7
  unfold chkM at hc
  cases hp : ringsP t with
  | none => rw [hp] at hc; cases hc
  | some R =>
    rw [hp] at hc
    simp only at hc
    obtain ⟨c1, hc⟩ := cond_split hc
    obtain ⟨c2, hc⟩ := cond_split hc
    obtain ⟨c3, hc⟩ := cond_split hc
    cases hb : bkF t (idN t.length 0) 20 1 t with
    | none => rw [hb] at hc; cases hc
    | some n =>
      rw [hb] at hc
      simp only [chkR] at hc
      obtain ⟨d1, hc⟩ := cond_split hc
      obtain ⟨d2, hc⟩ := cond_split hc
      obtain ⟨d3, d4⟩ := cond_split hc
      have hr : ringsR t = some R := by
        cases hq : ringsR t with
        | none => rw [hq] at c1; cases c1
        | some R' => rw [hq] at c1; rw [eqNN_ok R R' c1]
      have hba : backA R 6 2 1 = some n := by
        cases hq : backA R 6 2 1 with
        | none => rw [hq] at d2; cases d2
        | some n' => rw [hq] at d2; rw [Nat.eq_of_beq_eq_true d2]
      refine ⟨R, n, hp, hr, blt_lt c2, blt_lt c3, hb, hba, blt_lt d3, fun l hl => ?_, fun x hx => ?_⟩
      · have := allB_iff _ R d1 l hl
        obtain ⟨e1, this⟩ := cond_split this
        obtain ⟨e2, this⟩ := cond_split this
        obtain ⟨e3, e4⟩ := cond_split this
        exact ⟨blt_lt e1, blt_lt e2, Nat.eq_of_beq_eq_true e3, fun x hx => blt_lt (allN_iff _ l e4 x hx)⟩
      · exact anyHas_iff R x (allN_iff _ _ d4 x (by rw [idN_eq, List.mem_range']; exact ⟨x, hx, by omega⟩))

/-! ### Where things are -/
def it (t : List Nat) : Nat → Nat → Nat
  | 0, x => x
  | k + 1, x => nth t (it t k x)
theorem it_add (t : List Nat) (a : Nat) : ∀ (b x : Nat), it t (b + a) x = it t b (it t a x)
  | 0, x => by rw [Nat.zero_add]; rfl
  | b + 1, x => by rw [show b + 1 + a = (b + a) + 1 by omega, it, it_add t a b, it]
theorem it_mul (t : List Nat) (m x : Nat) (h : it t m x = x) : ∀ j, it t (j * m) x = x
  | 0 => by rw [Nat.zero_mul]; rfl
  | j + 1 => by rw [Nat.add_mul, Nat.one_mul, it_add, h, it_mul t m x h j]
theorem it_mod (t : List Nat) (m x : Nat) (h : it t m x = x) (k : Nat) : it t (k % m) x = it t k x := by
  have e : k = k % m + (k / m) * m := by rw [Nat.mul_comm]; exact (Nat.mod_add_div k m).symm
  conv => rhs; rw [e, it_add, it_mul t m x h]
def orb (t : List Nat) (p m : Nat) : List Nat := (List.range m).map fun i => it t i p
theorem orb_succ (t : List Nat) (p m : Nat) : orb t p (m + 1) = orb t p m ++ [it t m p] := by simp [orb, List.range_succ]
theorem orb_len (t : List Nat) (p m : Nat) : (orb t p m).length = m := by simp [orb]
theorem orb_at (t : List Nat) (p m i : Nat) (h : i < m) : nth (orb t p m) i = it t i p := by rw [nth_getD, orb, List.getD_eq_getElem?_getD]; simp [h]
theorem rgF_orb (t : List Nat) (p : Nat) (l : List Nat) (f : Nat) : ∀ j, rgF t p f (it t j p) (orb t p j) = some l → ∃ m, j ≤ m ∧ l = orb t p m ∧ it t m p = p := by
  induction f with
  | zero => intro j h; cases h
  | succ f ih =>
    intro j h
    rw [rgF] at h
    cases e : Nat.beq (it t j p) p
    · rw [e, cond_false] at h
      cases e2 : Nat.blt (it t j p) t.length
      · rw [e2] at h; cases h
      · rw [e2, cond_true, ← orb_succ] at h
        obtain ⟨m, h1, h2, h3⟩ := ih (j + 1) h
        exact ⟨m, by omega, h2, h3⟩
    · rw [e, cond_true] at h
      exact ⟨j, Nat.le_refl _, (Option.some.inj h).symm, Nat.eq_of_beq_eq_true e⟩
/-- A ring is the way of a thing until it is back. -/
theorem ringR_orb {t : List Nat} {p : Nat} {l : List Nat} (h : ringR t p = some l) : ∃ m, 1 ≤ m ∧ l = orb t p m ∧ it t m p = p := rgF_orb t p l 9 1 h
theorem ringsH_mem (t : List Nat) (R : List (List Nat)) (n : Nat) : ∀ (p : Nat) (out : List (List Nat)), ringsH t n p out = some R → ∀ l ∈ R, l ∈ out ∨ ∃ q, ringR t q = some l := by
  induction n with
  | zero => intro p out h l hl; have h := Option.some.inj h; subst h; exact .inl hl
  | succ n ih =>
    intro p out h l hl
    rw [ringsH] at h
    cases hr : ringR t p with
    | none => rw [hr] at h; cases h
    | some r =>
      rw [hr] at h
      simp only at h
      rcases ih _ _ h l hl with c | c
      · cases e : Nat.beq (minL p r) p
        · rw [e, cond_false] at c; exact .inl c
        · rw [e, cond_true] at c
          rcases List.mem_append.1 c with c | c
          · exact .inl c
          · simp at c; exact .inr ⟨p, by rw [hr, c]⟩
      · exact .inr c
theorem Known.ring {t : List Nat} {R : List (List Nat)} {n : Nat} (K : Known t R n) {l : List Nat} (hl : l ∈ R) : ∃ p, l = orb t p l.length ∧ it t l.length p = p := by
  rcases ringsH_mem t R _ _ _ K.hr l hl with c | ⟨q, hq⟩
  · cases c
  · obtain ⟨m, _, rfl, h⟩ := ringR_orb hq
    exact ⟨q, by rw [orb_len], by rw [orb_len]; exact h⟩
/-- The place in a ring. -/
def idxI (i : Nat) (T : Int) (m : Nat) : Int := (((i : Int) + T).tmod (m : Int) + (m : Int)).tmod (m : Int)
theorem tmod2 (a : Int) (m : Nat) (hm : 0 < m) : (a.tmod (m : Int) + (m : Int)).tmod (m : Int) = a % (m : Int) := by
  have hm' : (0 : Int) < (m : Int) := by omega
  have h1 := Int.tmod_lt_of_pos a hm'
  have h2 : -(m : Int) < a.tmod (m : Int) := by
    have := Int.lt_tmod_of_pos a hm'
    exact this
  rw [Int.tmod_eq_emod_of_nonneg (by omega)]
  have h3 : a.tmod (m : Int) = a - (m : Int) * a.tdiv (m : Int) := Int.tmod_def a m
  rw [h3, show a - (m : Int) * a.tdiv (m : Int) + (m : Int) = a + (m : Int) * (1 - a.tdiv (m : Int)) by rw [Int.mul_sub, Int.mul_one]; omega, Int.add_mul_emod_self_left]
end Go.Am.Wash

