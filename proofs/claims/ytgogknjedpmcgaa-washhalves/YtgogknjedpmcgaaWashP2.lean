import Derived.Test.YtgogknjedpmcgaaWashP1
/-
  Plain: rings, and when all is back, and where things are: all tides are tried by the kernel. No statement of the seat is proved here.
-/
set_option linter.unusedVariables false
set_option linter.unusedSimpArgs false
namespace Go.Am.Wash

def mapN (b : List Nat) : List Nat → List Nat
  | [] => []
  | x :: r => nth b x :: mapN b r
/-- After how many tides all is back. -/
def bkF (t id : List Nat) : Nat → Nat → List Nat → Option Nat
  | 0, _, _ => none
  | f + 1, n, now => cond (eqN now id) (some n) (bkF t id f (n + 1) (mapN t now))
def idN : Nat → Nat → List Nat
  | 0, _ => []
  | n + 1, k => k :: idN n (k + 1)
/-- How many rings have each length. -/
def cntN : List (List Nat) → Nat → Nat
  | [], _ => 0
  | l :: r, x => cond (Nat.beq l.length x) (cntN r x + 1) (cntN r x)
def backL (c : Nat) (m step : Nat) : Nat → Nat → Option Nat
  | 0, _ => none
  | f + 1, n => cond (cond (Nat.beq c 0) true (Nat.beq (n % m) 0)) (some n) (backL c m step f (n + step))
def backA (R : List (List Nat)) : Nat → Nat → Nat → Option Nat
  | 0, _, n => some n
  | f + 1, m, n => match backL (cntN R m) m n 20 n with
    | some n' => backA R f (m + 1) n'
    | none => none
def allB (p : List Nat → Bool) : List (List Nat) → Bool
  | [] => true
  | l :: r => cond (p l) (allB p r) false
def allN (p : Nat → Bool) : List Nat → Bool
  | [] => true
  | x :: r => cond (p x) (allN p r) false
def anyHas : List (List Nat) → Nat → Bool
  | [], _ => false
  | l :: r, x => cond (hasN l x) true (anyHas r x)
def eqO : Option Nat → Nat → Bool
  | some a, b => Nat.beq a b
  | none, _ => false
def chkR (t : List Nat) (R : List (List Nat)) (n : Nat) : Bool :=
  cond (allB (fun l => cond (Nat.blt 0 l.length) (cond (Nat.blt l.length 8) (cond (Nat.beq (n % l.length) 0) (allN (fun x => Nat.blt x t.length) l) false) false) false) R)
    (cond (eqO (backA R 6 2 1) n) (cond (Nat.blt n 100) (allN (anyHas R) (idN t.length 0)) false) false) false
def chkM (t : List Nat) : Bool := match ringsP t with
  | some R => cond (both (some R) (ringsR t)) (cond (Nat.blt 0 R.length) (cond (Nat.blt R.length 8) (match bkF t (idN t.length 0) 20 1 t with
    | some n => chkR t R n
    | none => false) false) false) false
  | none => false
theorem m1 : allP 1 chkM 1 [] = true := by kernel_rfl
theorem m2 : allP 2 chkM 2 [] = true := by kernel_rfl
theorem m3 : allP 3 chkM 3 [] = true := by kernel_rfl
theorem m4 : allP 4 chkM 4 [] = true := by kernel_rfl
theorem m5 : allP 5 chkM 5 [] = true := by kernel_rfl
theorem m6_0 : allP 6 chkM 5 [0] = true := by kernel_rfl
theorem m6_1 : allP 6 chkM 5 [1] = true := by kernel_rfl
theorem m6_2 : allP 6 chkM 5 [2] = true := by kernel_rfl
theorem m6_3 : allP 6 chkM 5 [3] = true := by kernel_rfl
theorem m6_4 : allP 6 chkM 5 [4] = true := by kernel_rfl
theorem m6_5 : allP 6 chkM 5 [5] = true := by kernel_rfl
theorem allP_one (n : Nat) (P : List Nat → Bool) (d : Nat) (b : List Nat) (h : ∀ y, y < n → y ∉ b → allP n P d (b ++ [y]) = true) : allP n P (d + 1) b = true :=
  (allC_iff _ _ _ _).2 fun y _ h2 h3 => h y (by omega) h3
theorem m6 : allP 6 chkM 6 [] = true := allP_one 6 chkM 5 [] fun y hy _ => match y, hy with
  | 0, _ => m6_0 | 1, _ => m6_1 | 2, _ => m6_2 | 3, _ => m6_3 | 4, _ => m6_4 | 5, _ => m6_5
end Go.Am.Wash

/-
  Plain: rings, and when all is back: tides of seven places that begin with 0, 1 are tried by the kernel. No statement of the seat is proved here.
-/
namespace Go.Am.Wash
theorem m7_01 : allP 7 chkM 5 [0, 1] = true := by kernel_rfl
theorem m7_02 : allP 7 chkM 5 [0, 2] = true := by kernel_rfl
theorem m7_03 : allP 7 chkM 5 [0, 3] = true := by kernel_rfl
theorem m7_04 : allP 7 chkM 5 [0, 4] = true := by kernel_rfl
theorem m7_05 : allP 7 chkM 5 [0, 5] = true := by kernel_rfl
theorem m7_06 : allP 7 chkM 5 [0, 6] = true := by kernel_rfl
theorem m7_0 : allP 7 chkM 6 [0] = true := allP_one 7 chkM 5 [0] fun y hy hb => match y, hy, hb with
  | 0, _, hb => absurd (by simp) hb
  | 1, _, _ => m7_01
  | 2, _, _ => m7_02
  | 3, _, _ => m7_03
  | 4, _, _ => m7_04
  | 5, _, _ => m7_05
  | 6, _, _ => m7_06
theorem m7_10 : allP 7 chkM 5 [1, 0] = true := by kernel_rfl
theorem m7_12 : allP 7 chkM 5 [1, 2] = true := by kernel_rfl
theorem m7_13 : allP 7 chkM 5 [1, 3] = true := by kernel_rfl
theorem m7_14 : allP 7 chkM 5 [1, 4] = true := by kernel_rfl
theorem m7_15 : allP 7 chkM 5 [1, 5] = true := by kernel_rfl
theorem m7_16 : allP 7 chkM 5 [1, 6] = true := by kernel_rfl
theorem m7_1 : allP 7 chkM 6 [1] = true := allP_one 7 chkM 5 [1] fun y hy hb => match y, hy, hb with
  | 0, _, _ => m7_10
  | 1, _, hb => absurd (by simp) hb
  | 2, _, _ => m7_12
  | 3, _, _ => m7_13
  | 4, _, _ => m7_14
  | 5, _, _ => m7_15
  | 6, _, _ => m7_16
end Go.Am.Wash

/-
  Plain: rings, and when all is back: tides of seven places that begin with 2, 3 are tried by the kernel. No statement of the seat is proved here.
-/
namespace Go.Am.Wash
theorem m7_20 : allP 7 chkM 5 [2, 0] = true := by kernel_rfl
theorem m7_21 : allP 7 chkM 5 [2, 1] = true := by kernel_rfl
theorem m7_23 : allP 7 chkM 5 [2, 3] = true := by kernel_rfl
theorem m7_24 : allP 7 chkM 5 [2, 4] = true := by kernel_rfl
theorem m7_25 : allP 7 chkM 5 [2, 5] = true := by kernel_rfl
theorem m7_26 : allP 7 chkM 5 [2, 6] = true := by kernel_rfl
theorem m7_2 : allP 7 chkM 6 [2] = true := allP_one 7 chkM 5 [2] fun y hy hb => match y, hy, hb with
  | 0, _, _ => m7_20
  | 1, _, _ => m7_21
  | 2, _, hb => absurd (by simp) hb
  | 3, _, _ => m7_23
  | 4, _, _ => m7_24
  | 5, _, _ => m7_25
  | 6, _, _ => m7_26
theorem m7_30 : allP 7 chkM 5 [3, 0] = true := by kernel_rfl
theorem m7_31 : allP 7 chkM 5 [3, 1] = true := by kernel_rfl
theorem m7_32 : allP 7 chkM 5 [3, 2] = true := by kernel_rfl
theorem m7_34 : allP 7 chkM 5 [3, 4] = true := by kernel_rfl
theorem m7_35 : allP 7 chkM 5 [3, 5] = true := by kernel_rfl
theorem m7_36 : allP 7 chkM 5 [3, 6] = true := by kernel_rfl
theorem m7_3 : allP 7 chkM 6 [3] = true := allP_one 7 chkM 5 [3] fun y hy hb => match y, hy, hb with
  | 0, _, _ => m7_30
  | 1, _, _ => m7_31
  | 2, _, _ => m7_32
  | 3, _, hb => absurd (by simp) hb
  | 4, _, _ => m7_34
  | 5, _, _ => m7_35
  | 6, _, _ => m7_36
end Go.Am.Wash

/-
  Plain: rings, and when all is back: tides of seven places that begin with 4, 5, 6 are tried by the kernel. No statement of the seat is proved here.
-/
namespace Go.Am.Wash
theorem m7_40 : allP 7 chkM 5 [4, 0] = true := by kernel_rfl
theorem m7_41 : allP 7 chkM 5 [4, 1] = true := by kernel_rfl
theorem m7_42 : allP 7 chkM 5 [4, 2] = true := by kernel_rfl
theorem m7_43 : allP 7 chkM 5 [4, 3] = true := by kernel_rfl
theorem m7_45 : allP 7 chkM 5 [4, 5] = true := by kernel_rfl
theorem m7_46 : allP 7 chkM 5 [4, 6] = true := by kernel_rfl
theorem m7_4 : allP 7 chkM 6 [4] = true := allP_one 7 chkM 5 [4] fun y hy hb => match y, hy, hb with
  | 0, _, _ => m7_40
  | 1, _, _ => m7_41
  | 2, _, _ => m7_42
  | 3, _, _ => m7_43
  | 4, _, hb => absurd (by simp) hb
  | 5, _, _ => m7_45
  | 6, _, _ => m7_46
theorem m7_50 : allP 7 chkM 5 [5, 0] = true := by kernel_rfl
theorem m7_51 : allP 7 chkM 5 [5, 1] = true := by kernel_rfl
theorem m7_52 : allP 7 chkM 5 [5, 2] = true := by kernel_rfl
theorem m7_53 : allP 7 chkM 5 [5, 3] = true := by kernel_rfl
theorem m7_54 : allP 7 chkM 5 [5, 4] = true := by kernel_rfl
theorem m7_56 : allP 7 chkM 5 [5, 6] = true := by kernel_rfl
theorem m7_5 : allP 7 chkM 6 [5] = true := allP_one 7 chkM 5 [5] fun y hy hb => match y, hy, hb with
  | 0, _, _ => m7_50
  | 1, _, _ => m7_51
  | 2, _, _ => m7_52
  | 3, _, _ => m7_53
  | 4, _, _ => m7_54
  | 5, _, hb => absurd (by simp) hb
  | 6, _, _ => m7_56
theorem m7_60 : allP 7 chkM 5 [6, 0] = true := by kernel_rfl
theorem m7_61 : allP 7 chkM 5 [6, 1] = true := by kernel_rfl
theorem m7_62 : allP 7 chkM 5 [6, 2] = true := by kernel_rfl
theorem m7_63 : allP 7 chkM 5 [6, 3] = true := by kernel_rfl
theorem m7_64 : allP 7 chkM 5 [6, 4] = true := by kernel_rfl
theorem m7_65 : allP 7 chkM 5 [6, 5] = true := by kernel_rfl
theorem m7_6 : allP 7 chkM 6 [6] = true := allP_one 7 chkM 5 [6] fun y hy hb => match y, hy, hb with
  | 0, _, _ => m7_60
  | 1, _, _ => m7_61
  | 2, _, _ => m7_62
  | 3, _, _ => m7_63
  | 4, _, _ => m7_64
  | 5, _, _ => m7_65
  | 6, _, hb => absurd (by simp) hb
end Go.Am.Wash

/-
  Plain: all tides of at most seven places were tried. No statement of the seat is proved here.
-/
namespace Go.Am.Wash
theorem m7 : allP 7 chkM 7 [] = true := allP_one 7 chkM 6 [] fun y hy _ => match y, hy with
  | 0, _ => m7_0 | 1, _ => m7_1 | 2, _ => m7_2 | 3, _ => m7_3 | 4, _ => m7_4 | 5, _ => m7_5 | 6, _ => m7_6
theorem chk_all {t : List Nat} (h : Tide t.length t) (h1 : 1 ≤ t.length) (h7 : t.length ≤ 7) : chkM t = true := by
  have hm : allP t.length chkM t.length [] = true := by
    match hn : t.length, h1, h7 with
    | 1, _, _ => exact m1
    | 2, _, _ => exact m2
    | 3, _, _ => exact m3
    | 4, _, _ => exact m4
    | 5, _, _ => exact m5
    | 6, _, _ => exact m6
    | 7, _, _ => exact m7
  exact tide_all hm h
end Go.Am.Wash

/-
  Plain: what is known of each tide; where things are after any number of tides. No statement of the seat is proved here.
-/
set_option linter.unusedVariables false
set_option linter.unusedSimpArgs false
namespace Go.Am.Wash

/-- What was found about a tide: its rings, and when all is back. -/
structure Known (t : List Nat) (R : List (List Nat)) (n : Nat) : Prop where
  hp : ringsP t = some R
  hr : ringsR t = some R
  h0 : 0 < R.length
  h8 : R.length < 8
  bk : bkF t (idN t.length 0) 20 1 t = some n
  ba : backA R 6 2 1 = some n
  n100 : n < 100
  rows : ∀ l ∈ R, 0 < l.length ∧ l.length < 8 ∧ n % l.length = 0 ∧ ∀ x ∈ l, x < t.length
  cov : ∀ x, x < t.length → ∃ l ∈ R, x ∈ l
theorem cond_split {a b : Bool} (h : cond a b false = true) : a = true ∧ b = true := by cases a <;> cases b <;> simp_all
theorem allB_iff (p : List Nat → Bool) : ∀ R : List (List Nat), allB p R = true → ∀ l ∈ R, p l = true
  | [], _, l, hl => by cases hl
  | a :: r, h, l, hl => by
    obtain ⟨h1, h2⟩ := cond_split h
    rcases List.mem_cons.1 hl with rfl | hl
    · exact h1
    · exact allB_iff p r h2 l hl
theorem allN_iff (p : Nat → Bool) : ∀ R : List Nat, allN p R = true → ∀ l ∈ R, p l = true
  | [], _, l, hl => by cases hl
  | a :: r, h, l, hl => by
    obtain ⟨h1, h2⟩ := cond_split h
    rcases List.mem_cons.1 hl with rfl | hl
    · exact h1
    · exact allN_iff p r h2 l hl
theorem anyHas_iff : ∀ (R : List (List Nat)) (x : Nat), anyHas R x = true → ∃ l ∈ R, x ∈ l
  | [], x, h => by cases h
  | l :: r, x, h => by
    rw [anyHas] at h
    cases c : hasN l x
    · rw [c, cond_false] at h
      obtain ⟨l', h1, h2⟩ := anyHas_iff r x h
      exact ⟨l', by simp [h1], h2⟩
    · exact ⟨l, by simp, (hasN_iff l x).1 c⟩
theorem idN_eq (n : Nat) : ∀ k, idN n k = List.range' k n := by
  induction n with
  | zero => intro k; rfl
  | succ n ih => intro k; rw [idN, ih, List.range'_succ]
theorem blt_lt {a b : Nat} (h : Nat.blt a b = true) : a < b := by
  have : Nat.ble (a + 1) b = true := h
  rw [Nat.ble_eq] at this; omega
theorem known {t : List Nat} (h : Tide t.length t) (h1 : 1 ≤ t.length) (h7 : t.length ≤ 7) : ∃ R n, Known t R n := by
  have hc := chk_all h h1 h7
  unfold chkM at hc
  cases hp : ringsP t with
  | none => rw [hp] at hc; cases hc
  | some R =>
    rw [hp] at hc
    simp only at hc
    obtain ⟨c1, hc⟩ := cond_split hc
    obtain ⟨c2, hc⟩ := cond_split hc
    obtain ⟨c3, hc⟩ := cond_split hc
    cases hb : bkF t (idN t.length 0) 20 1 t with
    | none => rw [hb] at hc; cases hc
    | some n =>
      rw [hb] at hc
      simp only [chkR] at hc
      obtain ⟨d1, hc⟩ := cond_split hc
      obtain ⟨d2, hc⟩ := cond_split hc
      obtain ⟨d3, d4⟩ := cond_split hc
      have hr : ringsR t = some R := by
        cases hq : ringsR t with
        | none => rw [hq] at c1; cases c1
        | some R' => rw [hq] at c1; rw [eqNN_ok R R' c1]
      have hba : backA R 6 2 1 = some n := by
        cases hq : backA R 6 2 1 with
        | none => rw [hq] at d2; cases d2
        | some n' => rw [hq] at d2; rw [Nat.eq_of_beq_eq_true d2]
      refine ⟨R, n, hp, hr, blt_lt c2, blt_lt c3, hb, hba, blt_lt d3, fun l hl => ?_, fun x hx => ?_⟩
      · have := allB_iff _ R d1 l hl
        obtain ⟨e1, this⟩ := cond_split this
        obtain ⟨e2, this⟩ := cond_split this
        obtain ⟨e3, e4⟩ := cond_split this
        exact ⟨blt_lt e1, blt_lt e2, Nat.eq_of_beq_eq_true e3, fun x hx => blt_lt (allN_iff _ l e4 x hx)⟩
      · exact anyHas_iff R x (allN_iff _ _ d4 x (by rw [idN_eq, List.mem_range']; exact ⟨x, hx, by omega⟩))

end Go.Am.Wash

/-
  Plain: where things are after any number of tides, and when a thing comes to a place. No statement of the seat is proved here.
-/
set_option linter.unusedVariables false
set_option linter.unusedSimpArgs false
namespace Go.Am.Wash

theorem nth_at' (t : List Nat) (i : Nat) (h : i < t.length) : nth t i = t[i] := by rw [nth_getD]; simp [List.getD_eq_getElem?_getD, h]
end Go.Am.Wash


