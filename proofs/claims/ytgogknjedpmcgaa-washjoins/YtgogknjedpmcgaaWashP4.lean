/-
  Plain: what is known of each tide; where things are after any number of tides. No statement of the seat is proved here.
-/
import Derived.Test.YtgogknjedpmcgaaWashQ0
set_option linter.unusedVariables false
set_option linter.unusedSimpArgs false
namespace Go.Am.Wash

/-- What was found about a tide: its rings, and when all is back. -/
structure Known (t : List Nat) (R : List (List Nat)) (n : Nat) : Prop where
  hp : ringsP t = some R
  hr : ringsR t = some R
  h0 : 0 < R.length
  h8 : R.length < 8
  bk : bkF t (idN t.length 0) 20 1 t = some n
  ba : backA R 6 2 1 = some n
  n100 : n < 100
  rows : ∀ l ∈ R, 0 < l.length ∧ l.length < 8 ∧ n % l.length = 0 ∧ ∀ x ∈ l, x < t.length
  cov : ∀ x, x < t.length → ∃ l ∈ R, x ∈ l
theorem cond_split {a b : Bool} (h : cond a b false = true) : a = true ∧ b = true := by cases a <;> cases b <;> simp_all
theorem allB_iff (p : List Nat → Bool) : ∀ R : List (List Nat), allB p R = true → ∀ l ∈ R, p l = true
  | [], _, l, hl => by cases hl
  | a :: r, h, l, hl => by
    obtain ⟨h1, h2⟩ := cond_split h
    rcases List.mem_cons.1 hl with rfl | hl
    · exact h1
    · exact allB_iff p r h2 l hl
theorem allN_iff (p : Nat → Bool) : ∀ R : List Nat, allN p R = true → ∀ l ∈ R, p l = true
  | [], _, l, hl => by cases hl
  | a :: r, h, l, hl => by
    obtain ⟨h1, h2⟩ := cond_split h
    rcases List.mem_cons.1 hl with rfl | hl
    · exact h1
    · exact allN_iff p r h2 l hl
theorem anyHas_iff : ∀ (R : List (List Nat)) (x : Nat), anyHas R x = true → ∃ l ∈ R, x ∈ l
  | [], x, h => by cases h
  | l :: r, x, h => by
    rw [anyHas] at h
    cases c : hasN l x
    · rw [c, cond_false] at h
      obtain ⟨l', h1, h2⟩ := anyHas_iff r x h
      exact ⟨l', by simp [h1], h2⟩
    · exact ⟨l, by simp, (hasN_iff l x).1 c⟩
theorem idN_eq (n : Nat) : ∀ k, idN n k = List.range' k n := by
  induction n with
  | zero => intro k; rfl
  | succ n ih => intro k; rw [idN, ih, List.range'_succ]
theorem blt_lt {a b : Nat} (h : Nat.blt a b = true) : a < b := by
  have : Nat.ble (a + 1) b = true := h
  rw [Nat.ble_eq] at this; omega
theorem known {t : List Nat} (h : Tide t.length t) (h1 : 1 ≤ t.length) (h7 : t.length ≤ 7) : ∃ R n, Known t R n := by
  have hc := chk_all h h1 h7
  unfold chkM at hc
  cases hp : ringsP t with
  | none => rw [hp] at hc; cases hc
  | some R =>
    rw [hp] at hc
    simp only at hc
    obtain ⟨c1, hc⟩ := cond_split hc
    obtain ⟨c2, hc⟩ := cond_split hc
    obtain ⟨c3, hc⟩ := cond_split hc
    cases hb : bkF t (idN t.length 0) 20 1 t with
    | none => rw [hb] at hc; cases hc
    | some n =>
      rw [hb] at hc
      simp only [chkR] at hc
      obtain ⟨d1, hc⟩ := cond_split hc
      obtain ⟨d2, hc⟩ := cond_split hc
      obtain ⟨d3, d4⟩ := cond_split hc
      have hr : ringsR t = some R := by
        cases hq : ringsR t with
        | none => rw [hq] at c1; cases c1
        | some R' => rw [hq] at c1; rw [eqNN_ok R R' c1]
      have hba : backA R 6 2 1 = some n := by
        cases hq : backA R 6 2 1 with
        | none => rw [hq] at d2; cases d2
        | some n' => rw [hq] at d2; rw [Nat.eq_of_beq_eq_true d2]
      refine ⟨R, n, hp, hr, blt_lt c2, blt_lt c3, hb, hba, blt_lt d3, fun l hl => ?_, fun x hx => ?_⟩
      · have := allB_iff _ R d1 l hl
        obtain ⟨e1, this⟩ := cond_split this
        obtain ⟨e2, this⟩ := cond_split this
        obtain ⟨e3, e4⟩ := cond_split this
        exact ⟨blt_lt e1, blt_lt e2, Nat.eq_of_beq_eq_true e3, fun x hx => blt_lt (allN_iff _ l e4 x hx)⟩
      · exact anyHas_iff R x (allN_iff _ _ d4 x (by rw [idN_eq, List.mem_range']; exact ⟨x, hx, by omega⟩))

end Go.Am.Wash

