/-
  Plain: tides of seven places that begin with 0 are tried by the kernel. No statement of the seat is proved here.
-/
import Derived.Test.YtgogknjedpmcgaaWashD4
import Derived.Test.YtgogknjedpmcgaaWashC9
set_option linter.unusedVariables false
namespace Go.Am.Wash
theorem w7_01 : allP 7 chkW 5 [0, 1] = true := by kernel_rfl
theorem w7_02 : allP 7 chkW 5 [0, 2] = true := by kernel_rfl
theorem w7_03 : allP 7 chkW 5 [0, 3] = true := by kernel_rfl
theorem w7_04 : allP 7 chkW 5 [0, 4] = true := by kernel_rfl
theorem w7_05 : allP 7 chkW 5 [0, 5] = true := by kernel_rfl
theorem w7_06 : allP 7 chkW 5 [0, 6] = true := by kernel_rfl
theorem w7_0 : allP 7 chkW 6 [0] = true := allP_one 7 chkW 5 [0] fun y hy hb => match y, hy, hb with
  | 0, _, hb => absurd (by simp) hb
  | 1, _, _ => w7_01
  | 2, _, _ => w7_02
  | 3, _, _ => w7_03
  | 4, _, _ => w7_04
  | 5, _, _ => w7_05
  | 6, _, _ => w7_06
end Go.Am.Wash


/-
  Plain: tides of seven places that begin with 1 are tried by the kernel. No statement of the seat is proved here.
-/
set_option linter.unusedVariables false
namespace Go.Am.Wash
theorem w7_10 : allP 7 chkW 5 [1, 0] = true := by kernel_rfl
theorem w7_12 : allP 7 chkW 5 [1, 2] = true := by kernel_rfl
theorem w7_13 : allP 7 chkW 5 [1, 3] = true := by kernel_rfl
theorem w7_14 : allP 7 chkW 5 [1, 4] = true := by kernel_rfl
theorem w7_15 : allP 7 chkW 5 [1, 5] = true := by kernel_rfl
theorem w7_16 : allP 7 chkW 5 [1, 6] = true := by kernel_rfl
theorem w7_1 : allP 7 chkW 6 [1] = true := allP_one 7 chkW 5 [1] fun y hy hb => match y, hy, hb with
  | 0, _, _ => w7_10
  | 1, _, hb => absurd (by simp) hb
  | 2, _, _ => w7_12
  | 3, _, _ => w7_13
  | 4, _, _ => w7_14
  | 5, _, _ => w7_15
  | 6, _, _ => w7_16
end Go.Am.Wash


/-
  Plain: tides of seven places that begin with 2 are tried by the kernel. No statement of the seat is proved here.
-/
set_option linter.unusedVariables false
namespace Go.Am.Wash
theorem w7_20 : allP 7 chkW 5 [2, 0] = true := by kernel_rfl
theorem w7_21 : allP 7 chkW 5 [2, 1] = true := by kernel_rfl
theorem w7_23 : allP 7 chkW 5 [2, 3] = true := by kernel_rfl
theorem w7_24 : allP 7 chkW 5 [2, 4] = true := by kernel_rfl
theorem w7_25 : allP 7 chkW 5 [2, 5] = true := by kernel_rfl
theorem w7_26 : allP 7 chkW 5 [2, 6] = true := by kernel_rfl
theorem w7_2 : allP 7 chkW 6 [2] = true := allP_one 7 chkW 5 [2] fun y hy hb => match y, hy, hb with
  | 0, _, _ => w7_20
  | 1, _, _ => w7_21
  | 2, _, hb => absurd (by simp) hb
  | 3, _, _ => w7_23
  | 4, _, _ => w7_24
  | 5, _, _ => w7_25
  | 6, _, _ => w7_26
end Go.Am.Wash


/-
  Plain: tides of seven places that begin with 3 are tried by the kernel. No statement of the seat is proved here.
-/
set_option linter.unusedVariables false
namespace Go.Am.Wash
theorem w7_30 : allP 7 chkW 5 [3, 0] = true := by kernel_rfl
theorem w7_31 : allP 7 chkW 5 [3, 1] = true := by kernel_rfl
theorem w7_32 : allP 7 chkW 5 [3, 2] = true := by kernel_rfl
theorem w7_34 : allP 7 chkW 5 [3, 4] = true := by kernel_rfl
theorem w7_35 : allP 7 chkW 5 [3, 5] = true := by kernel_rfl
theorem w7_36 : allP 7 chkW 5 [3, 6] = true := by kernel_rfl
theorem w7_3 : allP 7 chkW 6 [3] = true := allP_one 7 chkW 5 [3] fun y hy hb => match y, hy, hb with
  | 0, _, _ => w7_30
  | 1, _, _ => w7_31
  | 2, _, _ => w7_32
  | 3, _, hb => absurd (by simp) hb
  | 4, _, _ => w7_34
  | 5, _, _ => w7_35
  | 6, _, _ => w7_36
end Go.Am.Wash


/-
  Plain: tides of seven places that begin with 4 are tried by the kernel. No statement of the seat is proved here.
-/
set_option linter.unusedVariables false
namespace Go.Am.Wash
theorem w7_40 : allP 7 chkW 5 [4, 0] = true := by kernel_rfl
theorem w7_41 : allP 7 chkW 5 [4, 1] = true := by kernel_rfl
theorem w7_42 : allP 7 chkW 5 [4, 2] = true := by kernel_rfl
theorem w7_43 : allP 7 chkW 5 [4, 3] = true := by kernel_rfl
theorem w7_45 : allP 7 chkW 5 [4, 5] = true := by kernel_rfl
theorem w7_46 : allP 7 chkW 5 [4, 6] = true := by kernel_rfl
theorem w7_4 : allP 7 chkW 6 [4] = true := allP_one 7 chkW 5 [4] fun y hy hb => match y, hy, hb with
  | 0, _, _ => w7_40
  | 1, _, _ => w7_41
  | 2, _, _ => w7_42
  | 3, _, _ => w7_43
  | 4, _, hb => absurd (by simp) hb
  | 5, _, _ => w7_45
  | 6, _, _ => w7_46
end Go.Am.Wash


/-
  Plain: tides of seven places that begin with 5 are tried by the kernel. No statement of the seat is proved here.
-/
set_option linter.unusedVariables false
namespace Go.Am.Wash
theorem w7_50 : allP 7 chkW 5 [5, 0] = true := by kernel_rfl
theorem w7_51 : allP 7 chkW 5 [5, 1] = true := by kernel_rfl
theorem w7_52 : allP 7 chkW 5 [5, 2] = true := by kernel_rfl
theorem w7_53 : allP 7 chkW 5 [5, 3] = true := by kernel_rfl
theorem w7_54 : allP 7 chkW 5 [5, 4] = true := by kernel_rfl
theorem w7_56 : allP 7 chkW 5 [5, 6] = true := by kernel_rfl
theorem w7_5 : allP 7 chkW 6 [5] = true := allP_one 7 chkW 5 [5] fun y hy hb => match y, hy, hb with
  | 0, _, _ => w7_50
  | 1, _, _ => w7_51
  | 2, _, _ => w7_52
  | 3, _, _ => w7_53
  | 4, _, _ => w7_54
  | 5, _, hb => absurd (by simp) hb
  | 6, _, _ => w7_56
end Go.Am.Wash


/-
  Plain: tides of seven places that begin with 6 are tried by the kernel. No statement of the seat is proved here.
-/
set_option linter.unusedVariables false
namespace Go.Am.Wash
theorem w7_60 : allP 7 chkW 5 [6, 0] = true := by kernel_rfl
theorem w7_61 : allP 7 chkW 5 [6, 1] = true := by kernel_rfl
theorem w7_62 : allP 7 chkW 5 [6, 2] = true := by kernel_rfl
theorem w7_63 : allP 7 chkW 5 [6, 3] = true := by kernel_rfl
theorem w7_64 : allP 7 chkW 5 [6, 4] = true := by kernel_rfl
theorem w7_65 : allP 7 chkW 5 [6, 5] = true := by kernel_rfl
theorem w7_6 : allP 7 chkW 6 [6] = true := allP_one 7 chkW 5 [6] fun y hy hb => match y, hy, hb with
  | 0, _, _ => w7_60
  | 1, _, _ => w7_61
  | 2, _, _ => w7_62
  | 3, _, _ => w7_63
  | 4, _, _ => w7_64
  | 5, _, _ => w7_65
  | 6, _, hb => absurd (by simp) hb
end Go.Am.Wash


/-
  Plain: two tides, one under names; what is tried of pairs of tides of at most five places. No statement of the seat is proved here.
-/
set_option linter.unusedVariables false
set_option linter.unusedSimpArgs false
namespace Go.Am.Wash
/-- Is a tide, under names, another one? -/
def isNm (a b l : List Nat) : Bool := eqN (mapN b l) (mapN l a)
def badNm (a b l : List Nat) : Nat → Nat → Bool
  | 0, _ => false
  | n + 1, k => cond (Nat.blt (nth a k) l.length) (cond (Nat.beq (nth b (nth l k)) (nth l (nth a k))) (badNm a b l n (k + 1)) true) (badNm a b l n (k + 1))
def nmF (a b : List Nat) : List (List Nat) := flt a.length (isNm a b) (fun l => badNm a b l l.length 0) a.length []
theorem badNm_ok (a b l : List Nat) (n : Nat) : ∀ k, badNm a b l n k = true → ∃ p, p < k + n ∧ nth a p < l.length ∧ nth b (nth l p) ≠ nth l (nth a p) := by
  induction n with
  | zero => intro k h; cases h
  | succ n ih =>
    intro k h
    rw [badNm] at h
    cases c : Nat.blt (nth a k) l.length
    · rw [c, cond_false] at h
      obtain ⟨p, h1, h2⟩ := ih _ h
      exact ⟨p, by omega, h2⟩
    · rw [c, cond_true] at h
      cases c2 : Nat.beq (nth b (nth l k)) (nth l (nth a k))
      · refine ⟨k, by omega, blt_of c, fun e => ?_⟩
        rw [e, Nat.beq_refl] at c2; cases c2
      · rw [c2, cond_true] at h
        obtain ⟨p, h1, h2⟩ := ih _ h
        exact ⟨p, by omega, h2⟩
theorem nmF_ok (a b : List Nat) : nmF a b = (perms a.length a.length []).filter (isNm a b) := by
  refine flt_ok _ _ _ (fun l r h => ?_) _ _
  obtain ⟨p, h1, h2, h3⟩ := badNm_ok _ _ _ _ _ h
  rw [Bool.eq_false_iff]
  intro c
  have e := eqN_ok _ _ c
  have hl := congrArg List.length e
  rw [mapN_len, mapN_len, List.length_append] at hl
  have h4 := mapN_nth b (l ++ r) p (by simp; omega)
  have h5 := mapN_nth (l ++ r) a p (by omega)
  rw [e, h5, nth_app l r p (by omega), nth_app l r _ h2] at h4
  exact h3 h4.symm
def kindsN (R : List (List Nat)) : List Nat := [cntN R 1, cntN R 2, cntN R 3, cntN R 4, cntN R 5, cntN R 6, cntN R 7]
/-- How many pairs of places are carried past one another. -/
def invI (t : List Nat) (x : Nat) : Nat → Nat → Nat → Nat
  | 0, _, c => c
  | d + 1, k, c => invI t x d (k + 1) (cond (Nat.blt x (nth t k)) (c + 1) c)
def invO (t : List Nat) : Nat → Nat → Nat → Nat
  | 0, _, c => c
  | d + 1, i, c => invO t d (i + 1) (invI t (nth t i) i 0 c)
def inv (t : List Nat) : Nat := invO t t.length 0 0
def emp : List (List Nat) → Bool
  | [] => true
  | _ => false
def chkB (a : List Nat) (R : List (List Nat)) (b : List Nat) : Bool := match ringsP b with
  | some S => cond (cond (eqN (kindsN R) (kindsN S)) (cond (emp (nmF a b)) false true) (emp (nmF a b))) (Nat.beq (inv (mapN b a) % 2) ((inv a + inv b) % 2)) false
  | none => false
def chkA (a : List Nat) : Bool := match ringsP a with
  | some R => cond (Nat.beq (oddN R) (inv a % 2)) (allP a.length (chkB a R) a.length []) false
  | none => false
theorem a1 : allP 1 chkA 1 [] = true := by kernel_rfl
theorem a2 : allP 2 chkA 2 [] = true := by kernel_rfl
theorem a3 : allP 3 chkA 3 [] = true := by kernel_rfl
theorem a4 : allP 4 chkA 4 [] = true := by kernel_rfl
end Go.Am.Wash


/-
  Plain: pairs of tides of five places of which the first begins with 0 are tried by the kernel. No statement of the seat is proved here.
-/
set_option linter.unusedVariables false
namespace Go.Am.Wash
theorem a5_01 : allP 5 chkA 3 [0, 1] = true := by kernel_rfl
theorem a5_02 : allP 5 chkA 3 [0, 2] = true := by kernel_rfl
theorem a5_03 : allP 5 chkA 3 [0, 3] = true := by kernel_rfl
theorem a5_04 : allP 5 chkA 3 [0, 4] = true := by kernel_rfl
theorem a5_0 : allP 5 chkA 4 [0] = true := allP_one 5 chkA 3 [0] fun y hy hb => match y, hy, hb with
  | 0, _, hb => absurd (by simp) hb
  | 1, _, _ => a5_01
  | 2, _, _ => a5_02
  | 3, _, _ => a5_03
  | 4, _, _ => a5_04
end Go.Am.Wash


/-
  Plain: pairs of tides of five places of which the first begins with 1 are tried by the kernel. No statement of the seat is proved here.
-/
set_option linter.unusedVariables false
namespace Go.Am.Wash
theorem a5_10 : allP 5 chkA 3 [1, 0] = true := by kernel_rfl
theorem a5_12 : allP 5 chkA 3 [1, 2] = true := by kernel_rfl
theorem a5_13 : allP 5 chkA 3 [1, 3] = true := by kernel_rfl
theorem a5_14 : allP 5 chkA 3 [1, 4] = true := by kernel_rfl
theorem a5_1 : allP 5 chkA 4 [1] = true := allP_one 5 chkA 3 [1] fun y hy hb => match y, hy, hb with
  | 0, _, _ => a5_10
  | 1, _, hb => absurd (by simp) hb
  | 2, _, _ => a5_12
  | 3, _, _ => a5_13
  | 4, _, _ => a5_14
end Go.Am.Wash


/-
  Plain: pairs of tides of five places of which the first begins with 2 are tried by the kernel. No statement of the seat is proved here.
-/
set_option linter.unusedVariables false
namespace Go.Am.Wash
theorem a5_20 : allP 5 chkA 3 [2, 0] = true := by kernel_rfl
theorem a5_21 : allP 5 chkA 3 [2, 1] = true := by kernel_rfl
theorem a5_23 : allP 5 chkA 3 [2, 3] = true := by kernel_rfl
theorem a5_24 : allP 5 chkA 3 [2, 4] = true := by kernel_rfl
theorem a5_2 : allP 5 chkA 4 [2] = true := allP_one 5 chkA 3 [2] fun y hy hb => match y, hy, hb with
  | 0, _, _ => a5_20
  | 1, _, _ => a5_21
  | 2, _, hb => absurd (by simp) hb
  | 3, _, _ => a5_23
  | 4, _, _ => a5_24
end Go.Am.Wash


/-
  Plain: pairs of tides of five places of which the first begins with 3 are tried by the kernel. No statement of the seat is proved here.
-/
set_option linter.unusedVariables false
namespace Go.Am.Wash
theorem a5_30 : allP 5 chkA 3 [3, 0] = true := by kernel_rfl
theorem a5_31 : allP 5 chkA 3 [3, 1] = true := by kernel_rfl
theorem a5_32 : allP 5 chkA 3 [3, 2] = true := by kernel_rfl
theorem a5_34 : allP 5 chkA 3 [3, 4] = true := by kernel_rfl
theorem a5_3 : allP 5 chkA 4 [3] = true := allP_one 5 chkA 3 [3] fun y hy hb => match y, hy, hb with
  | 0, _, _ => a5_30
  | 1, _, _ => a5_31
  | 2, _, _ => a5_32
  | 3, _, hb => absurd (by simp) hb
  | 4, _, _ => a5_34
end Go.Am.Wash


/-
  Plain: pairs of tides of five places of which the first begins with 4 are tried by the kernel. No statement of the seat is proved here.
-/
set_option linter.unusedVariables false
namespace Go.Am.Wash
theorem a5_40 : allP 5 chkA 3 [4, 0] = true := by kernel_rfl
theorem a5_41 : allP 5 chkA 3 [4, 1] = true := by kernel_rfl
theorem a5_42 : allP 5 chkA 3 [4, 2] = true := by kernel_rfl
theorem a5_43 : allP 5 chkA 3 [4, 3] = true := by kernel_rfl
theorem a5_4 : allP 5 chkA 4 [4] = true := allP_one 5 chkA 3 [4] fun y hy hb => match y, hy, hb with
  | 0, _, _ => a5_40
  | 1, _, _ => a5_41
  | 2, _, _ => a5_42
  | 3, _, _ => a5_43
  | 4, _, hb => absurd (by simp) hb
end Go.Am.Wash


/-
  Plain: what was tried of tides of at most seven places, and of pairs of tides of at most five. No statement of the seat is proved here.
-/
set_option linter.unusedVariables false
set_option linter.unusedSimpArgs false
namespace Go.Am.Wash
theorem w7 : allP 7 chkW 7 [] = true := allP_one 7 chkW 6 [] fun y hy _ => match y, hy with
  | 0, _ => w7_0 | 1, _ => w7_1 | 2, _ => w7_2 | 3, _ => w7_3 | 4, _ => w7_4 | 5, _ => w7_5 | 6, _ => w7_6
theorem a5 : allP 5 chkA 5 [] = true := allP_one 5 chkA 4 [] fun y hy _ => match y, hy with
  | 0, _ => a5_0 | 1, _ => a5_1 | 2, _ => a5_2 | 3, _ => a5_3 | 4, _ => a5_4
theorem chkW_all {t : List Nat} (h : Tide t.length t) (h1' : 1 ≤ t.length) (h7' : t.length ≤ 7) : chkW t = true := by
  have hm : allP t.length chkW t.length [] = true := by
    match hn : t.length, h1', h7' with
    | 1, _, _ => exact w1
    | 2, _, _ => exact w2
    | 3, _, _ => exact w3
    | 4, _, _ => exact w4
    | 5, _, _ => exact w5
    | 6, _, _ => exact w6
    | 7, _, _ => exact w7
  exact tide_all hm h
theorem chkA_all {t : List Nat} (h : Tide t.length t) (h1' : 1 ≤ t.length) (h5' : t.length ≤ 5) : chkA t = true := by
  have hm : allP t.length chkA t.length [] = true := by
    match hn : t.length, h1', h5' with
    | 1, _, _ => exact a1
    | 2, _, _ => exact a2
    | 3, _, _ => exact a3
    | 4, _, _ => exact a4
    | 5, _, _ => exact a5
  exact tide_all hm h
theorem decL_inc : ∀ h : List Nat, (∀ x ∈ h, 0 < x) → (decL h).map (· + 1) = h
  | [], _ => rfl
  | x :: r, h => by
    have := h x (by simp)
    rw [decL, List.map_cons, decL_inc r fun y hy => h y (by simp [hy])]
    congr 1
    omega
theorem decL_mem : ∀ (h : List Nat) (y : Nat), y ∈ decL h → ∃ x ∈ h, y = x - 1
  | [], y, e => by cases e
  | x :: r, y, e => by
    rw [decL] at e
    rcases List.mem_cons.1 e with rfl | e
    · exact ⟨x, by simp, rfl⟩
    · obtain ⟨z, h1, h2⟩ := decL_mem r y e
      exact ⟨z, by simp [h1], h2⟩
/-- What was tried of a tide. -/
structure HalfW (t : List Nat) (R : List (List Nat)) (n N : Nat) : Prop where
  prod : prodF R 8 0 1 = some N
  n12 : n ≤ 12
  no : N = 0 → n % 2 = 0
  yes : 0 < N → ∃ q, putF t t.length t.length (List.replicate t.length 0) = some (true, q.map (· + 1)) ∧ q.length = t.length ∧ (∀ x ∈ q, x < t.length) ∧ mapN q q = t ∧ oddN R = 0
theorem halfW {t : List Nat} (h : Tide t.length t) (h1 : 1 ≤ t.length) (h7 : t.length ≤ 7) {R : List (List Nat)} {n : Nat} (K : Known t R n) : ∃ N, HalfW t R n N := by
  have hc := chkW_all h h1 h7
  unfold chkW at hc
  rw [K.hp] at hc
  simp only [K.bk] at hc
  cases hp : prodF R 8 0 1 with
  | none => rw [hp] at hc; cases hc
  | some N =>
    rw [hp] at hc
    simp only at hc
    obtain ⟨c1, hc⟩ := cond_split hc
    have h12 : n ≤ 12 := by simpa using c1
    cases hN : Nat.beq N 0
    · rw [hN, cond_false] at hc
      have hN' : N ≠ 0 := by intro e; rw [e] at hN; cases hN
      refine ⟨N, rfl.trans hp, h12, fun e => absurd e hN', fun _ => ?_⟩
      split at hc
      · rename_i x hx
        obtain ⟨d1, hc⟩ := cond_split hc
        obtain ⟨d2, d3⟩ := cond_split hc
        have d1' : ∀ y ∈ x, 0 < y ∧ y ≤ t.length := fun y hy => by
          obtain ⟨e1, e2⟩ := cond_split (allN_iff _ _ d1 y hy)
          exact ⟨blt_lt e1, by simpa using e2⟩
        have d2 := eqN_ok _ _ d2
        refine ⟨decL x, by rw [decL_inc x fun y hy => (d1' y hy).1]; exact hx, ?_, fun y hy => ?_, d2, by simpa using d3⟩
        · have := congrArg List.length d2
          rw [mapN_len] at this
          exact this
        · obtain ⟨z, z1, rfl⟩ := decL_mem x y hy
          have := d1' z z1
          omega
      · cases hc
    · rw [hN, cond_true] at hc
      have hN' : N = 0 := by simpa using hN
      exact ⟨N, hp, h12, fun _ => by simpa using hc, fun e => by omega⟩
/-- What was tried of two tides. -/
structure PairA (a b : List Nat) (R S : List (List Nat)) : Prop where
  odd : oddN R = inv a % 2
  kin : eqN (kindsN R) (kindsN S) = !emp (nmF a b)
  par : inv (mapN b a) % 2 = (inv a + inv b) % 2
theorem pairA {a b : List Nat} (h : Tide a.length a) (h1 : 1 ≤ a.length) (h5 : a.length ≤ 5) (hb : Tide a.length b) {R S : List (List Nat)} (hR : ringsP a = some R) (hS : ringsP b = some S) : PairA a b R S := by
  have hc := chkA_all h h1 h5
  unfold chkA at hc
  rw [hR] at hc
  simp only at hc
  obtain ⟨c1, hc⟩ := cond_split hc
  have hb := tide_all hc hb
  unfold chkB at hb
  rw [hS] at hb
  simp only at hb
  obtain ⟨c2, c3⟩ := cond_split hb
  refine ⟨by simpa using c1, ?_, by simpa using c3⟩
  cases e : eqN (kindsN R) (kindsN S)
  · rw [e, cond_false] at c2; rw [c2]; rfl
  · rw [e, cond_true] at c2
    cases e2 : emp (nmF a b)
    · rfl
    · rw [e2] at c2; cases c2
end Go.Am.Wash


/-
  What functions of chapter 13 compute, outright 8: the law 'WashHalved'.
-/
set_option linter.unusedVariables false
set_option linter.unusedSimpArgs false
set_option maxRecDepth 10000
set_option maxHeartbeats 2000000
namespace Go.Am.Wash
open Go.Am.G

theorem thenN_mapN (a b : List Nat) : thenN a b = mapN b a := by
  induction a with
  | nil => rfl
  | cons x r ih => rw [mapN, ← ih]; rfl
theorem td_then {t q : List Nat} (D : Td t) (hl : q.length = t.length) (hlt : ∀ x ∈ q, x < t.length) (h : thenN q q = t) : Td q := by
  refine ⟨⟨rfl, ?_, fun x hx => by rw [hl]; exact hlt x hx⟩, by rw [hl]; exact D.h1, by rw [hl]; exact D.h7⟩
  have hn := D.T.2.1
  rw [← h] at hn
  exact List.Pairwise.of_map (nth q) (fun a b h e => h (congrArg _ e)) hn
theorem both_td {a b : List Nat} (A : Td a) (B : Td b) (h : a.length = b.length) : bothE (ci a) (ci b) = 0 := by
  unfold bothE
  rw [A.chk, B.chk, ci_len, ci_len]
  simp [h]
theorem thenV_td {a b : List Nat} (A : Td a) (B : Td b) (h : a.length = b.length) : thenV (ci a) (ci b) = thenN a b := by
  unfold thenV
  rw [if_pos (both_td A B h), ci_toNat, ci_toNat]
theorem halvesN_c (nl ex : Bool) {t : List Nat} (D : Td t) {R : List (List Nat)} {n N : Nat} (K : Known t R n) (hN : prodF R 8 0 1 = some N) (m : LMem) : clF LP n_wash_Halves [IL nl ex 1 (ci t)] m = some (.P, .tup [.int .i64 (N : Int), .int .i64 0], m) := by
  have h7 := D.h7
  have hck := fun m => check_c nl ex 1 (ci t) (by rw [ci_len]; omega) m
  rw [D.chk] at hck
  have hk := fun m => kindK_c nl ex 1 D K m
  have h := halvesP_loop K 8 0 1 _ rfl (by omega) hN
  simp only [Int.natCast_zero, Int.natCast_one] at h
  generalize ints (ci (kindL R)) = w at *
  refine call_P lp_wash_Halves rfl (by simp [LV.pures, LV.pure]) (m1 := []) ?_ (by simp [LV.pures, LV.pure]) m
  simp only [wash_Halves, wash_Halves.B, beqT, beqF, exF_seq, exF_region, exF_block, exF_cond, exF_ret, exF_exit, exF_skip, runL, wantL, stepL, evL, LEnv.at, putL, loadFine, loadL, cellsAt, Trk.putNew, Trk.up, Trk.touch, Trk.gives, Trk.calm, Trk.hit, opdsOf, Trk.fresh, LEnv.keep, LEnv.ofFrom, List.map_cons, List.map_nil, nbeq, nble, nblt, ofAV, ofAVs, lenL, bin_add, bin_sub, bin_mul, bin_eql, bin_neq, bin_lss, bin_leq, bin_gtr, bin_geq, natL_nat, natL_zero, natL_one, natL_two, Nat.zero_mul, List.any_cons, List.any_nil, Bool.or_false, Bool.false_or, Bool.true_or, Bool.or_true, Bool.and_true, Bool.true_and, Bool.and_false, Bool.false_and, Bool.not_true, Bool.not_false, Nat.reduceBEq, Nat.reduceEqDiff, decide_true, decide_false, cond_true, cond_false, List.filter_nil, List.filter_cons, Nat.reduceAdd, Nat.reduceLeDiff, reduceCtorEq, List.length_nil, List.length_cons, Nat.mul_one, if_true, if_false, Bool.false_eq_true, eq_self, and_true, true_and, retL, resultsL, resAllL, resOfL, List.append_nil, List.nil_append, List.cons_append, true_or, or_true, false_or, or_false, false_and, and_false, not_true_eq_false, not_false_eq_true, ne_eq, unL, trim_nil, views_pures, LV.pures, LV.pure, freeze, Nat.reduceDiv, Int.reduceEq, Int.reduceLT, Int.reduceLE, Int.natCast_zero, LV.cells, allocL, List.getElem?_cons_zero, List.getElem?_cons_succ, storeL, spliceL, List.take_zero, List.take_succ_cons, List.drop_zero, List.drop_succ_cons, List.drop_nil, List.take_nil, Nat.le_refl, Nat.reduceMul, List.set_cons_zero, List.set_cons_succ, LV.scalar, List.all_cons, List.all_nil, Nat.lt_add_one, Nat.zero_lt_one, Nat.reduceLT, Nat.lt_irrefl, fillL, List.length_append, foldIntL, kind_beq, pures_int, solids_int, plains_int, unders_int, scalars_int, hck, hk, h]
theorem halfN0_c (nl ex : Bool) {t : List Nat} (D : Td t) {R : List (List Nat)} {n : Nat} (K : Known t R n) (hN : prodF R 8 0 1 = some 0) (m : LMem) : clF LP n_wash_Half [IL nl ex 1 (ci t)] m = some (.P, .tup [.lst true true 0 0 [], .int .i64 12], m) := by
  have hh := fun m => halvesN_c nl ex D K hN m
  have hh : ∀ m, clF LP n_wash_Halves [IL nl ex 1 (ci t)] m = some (.P, .tup [.int .i64 0, .int .i64 0], m) := hh
  refine call_P lp_wash_Half rfl (by simp [LV.pures, LV.pure]) (m1 := [⟨[IL nl ex 1 (ci t)], true⟩]) ?_ (by simp [LV.pures, LV.pure]) m
  simp only [wash_Half, wash_Half.B, beqT, beqF, exF_seq, exF_region, exF_block, exF_cond, exF_ret, exF_exit, exF_skip, runL, wantL, stepL, evL, LEnv.at, putL, loadFine, loadL, cellsAt, Trk.putNew, Trk.up, Trk.touch, Trk.gives, Trk.calm, Trk.hit, opdsOf, Trk.fresh, LEnv.keep, LEnv.ofFrom, List.map_cons, List.map_nil, nbeq, nble, nblt, ofAV, ofAVs, lenL, bin_add, bin_sub, bin_mul, bin_eql, bin_neq, bin_lss, bin_leq, bin_gtr, bin_geq, natL_nat, natL_zero, natL_one, natL_two, Nat.zero_mul, List.any_cons, List.any_nil, Bool.or_false, Bool.false_or, Bool.true_or, Bool.or_true, Bool.and_true, Bool.true_and, Bool.and_false, Bool.false_and, Bool.not_true, Bool.not_false, Nat.reduceBEq, Nat.reduceEqDiff, decide_true, decide_false, cond_true, cond_false, List.filter_nil, List.filter_cons, Nat.reduceAdd, Nat.reduceLeDiff, reduceCtorEq, List.length_nil, List.length_cons, Nat.mul_one, if_true, if_false, Bool.false_eq_true, eq_self, and_true, true_and, retL, resultsL, resAllL, resOfL, List.append_nil, List.nil_append, List.cons_append, true_or, or_true, false_or, or_false, false_and, and_false, not_true_eq_false, not_false_eq_true, ne_eq, unL, trim_nil, views_pures, LV.pures, LV.pure, freeze, Nat.reduceDiv, Int.reduceEq, Int.reduceLT, Int.reduceLE, Int.natCast_zero, LV.cells, allocL, List.getElem?_cons_zero, List.getElem?_cons_succ, storeL, spliceL, List.take_zero, List.take_succ_cons, List.drop_zero, List.drop_succ_cons, List.drop_nil, List.take_nil, Nat.le_refl, Nat.reduceMul, List.set_cons_zero, List.set_cons_succ, LV.scalar, List.all_cons, List.all_nil, Nat.lt_add_one, Nat.zero_lt_one, Nat.reduceLT, Nat.lt_irrefl, fillL, List.length_append, foldIntL, kind_beq, pures_int, solids_int, plains_int, unders_int, scalars_int, hh]
theorem halfN1_c (nl ex : Bool) {t : List Nat} (D : Td t) {R : List (List Nat)} {n N : Nat} (K : Known t R n) (hN : prodF R 8 0 1 = some N) (h0 : 0 < N) {q : List Nat} (hp : putF t t.length t.length (List.replicate t.length 0) = some (true, q.map (· + 1))) (m : LMem) : clF LP n_wash_Half [IL nl ex 1 (ci t)] m = some (.P, .tup [IL false true 1 (ci q), .int .i64 0], m) := by
  have h7 := D.h7
  have hh := fun m => halvesN_c nl ex D K hN m
  have hne : ¬ ((N : Nat) : Int) = 0 := by omega
  obtain ⟨g1, g2⟩ := put_c nl ex D t.length (Nat.le_refl _) (List.replicate t.length 0) [] true (q.map (· + 1)) (by simp) XOk.nil hp
  rw [Nat.sub_self] at g1
  simp only [HM, hi_none, hi_inc, Int.natCast_zero] at g1
  have hql : q.length = t.length := by simpa using g2
  have hrp := fun m => repeat_c t.length h7 m
  have hv : view 40 [⟨[IL nl ex 1 (ci t)], true⟩, ⟨ints (ci q), true⟩, ⟨[SLH t.length], true⟩, ⟨[PUTF], true⟩] (.tup [SLH t.length, .int .i64 0]) = some (.tup [IL false true 1 (ci q), .int .i64 0], [1]) := by
    refine view_tup2 _ _ _ _ _ (fun k => ?_) rfl (by simp [LV.pures, LV.pure, SLH])
    have := view_sl k [⟨[IL nl ex 1 (ci t)], true⟩, ⟨ints (ci q), true⟩, ⟨[SLH t.length], true⟩, ⟨[PUTF], true⟩] 1 0 t.length t.length 0 (ci q) true rfl (by rw [ci_len]; exact hql) (by omega) t.length (by omega)
    rw [List.drop_zero, List.take_of_length_le (by rw [ci_len]; omega)] at this
    refine Eq.trans this ?_
    simp [nbeq]
  refine call_Pv lp_wash_Half rfl (by simp [LV.pures, LV.pure]) ?_ hv m
  simp only [SLH] at g1 ⊢
  simp only [wash_Half, wash_Half.B, beqT, beqF, exF_seq, exF_region, exF_block, exF_cond, exF_ret, exF_exit, exF_skip, runL, wantL, stepL, evL, LEnv.at, putL, loadFine, loadL, cellsAt, Trk.putNew, Trk.up, Trk.touch, Trk.gives, Trk.calm, Trk.hit, opdsOf, Trk.fresh, LEnv.keep, LEnv.ofFrom, List.map_cons, List.map_nil, nbeq, nble, nblt, ofAV, ofAVs, lenL, bin_add, bin_sub, bin_mul, bin_eql, bin_neq, bin_lss, bin_leq, bin_gtr, bin_geq, natL_nat, natL_zero, natL_one, natL_two, Nat.zero_mul, List.any_cons, List.any_nil, Bool.or_false, Bool.false_or, Bool.true_or, Bool.or_true, Bool.and_true, Bool.true_and, Bool.and_false, Bool.false_and, Bool.not_true, Bool.not_false, Nat.reduceBEq, Nat.reduceEqDiff, decide_true, decide_false, cond_true, cond_false, List.filter_nil, List.filter_cons, Nat.reduceAdd, Nat.reduceLeDiff, reduceCtorEq, List.length_nil, List.length_cons, Nat.mul_one, if_true, if_false, Bool.false_eq_true, eq_self, and_true, true_and, retL, resultsL, resAllL, resOfL, List.append_nil, List.nil_append, List.cons_append, true_or, or_true, false_or, or_false, false_and, and_false, not_true_eq_false, not_false_eq_true, ne_eq, unL, trim_nil, views_pures, LV.pures, LV.pure, freeze, Nat.reduceDiv, Int.reduceEq, Int.reduceLT, Int.reduceLE, Int.natCast_zero, LV.cells, allocL, List.getElem?_cons_zero, List.getElem?_cons_succ, storeL, spliceL, List.take_zero, List.take_succ_cons, List.drop_zero, List.drop_succ_cons, List.drop_nil, List.take_nil, Nat.le_refl, Nat.reduceMul, List.set_cons_zero, List.set_cons_succ, LV.scalar, List.all_cons, List.all_nil, Nat.lt_add_one, Nat.zero_lt_one, Nat.reduceLT, Nat.lt_irrefl, fillL, List.length_append, foldIntL, kind_beq, pures_int, solids_int, plains_int, unders_int, scalars_int, ci_len, hh, hne, hrp, g1]
/-- Half of what brings all back and one more. -/
theorem aft_half {t : List Nat} (D : Td t) {R : List (List Nat)} {n : Nat} (K : Known t R n) (k : Nat) (hk : k + k = n + 1) : thenN (aftV t k) (aftV t k) = t ∧ Td (aftV t k) := by
  have e : thenN (aftV t k) (aftV t k) = t := by
    apply list_nth_ext (by rw [thenN_len, aftV_ln])
    intro x hx
    rw [thenN_len, aftV_ln] at hx
    have h2 : it t k x < t.length := it_lt D.lt hx k
    have h3 : nth (thenN (aftV t k) (aftV t k)) x = nth (aftV t k) (nth (aftV t k) x) := by
      rw [nth_at' _ _ (by rw [thenN_len, aftV_ln]; exact hx), nth_at' (aftV t k) x (by rw [aftV_ln]; exact hx)]
      simp [thenN]
    rw [h3, aftV_at _ _ _ hx, aftV_at _ _ _ h2, ← it_add, hk, show n + 1 = 1 + n by omega, it_add, K.per hx]
    rfl
  refine ⟨e, td_then D (aftV_ln t k) ?_ e⟩
  intro x hx
  obtain ⟨j, hj, rfl⟩ := mem_nth hx
  rw [aftV_ln] at hj
  rw [aftV_at _ _ _ hj]
  exact it_lt D.lt hj k
theorem oddB_N {R : List (List Nat)} (h : oddN R = 0) : oddB R = false := by
  unfold oddN at h
  simp only [cntN_eq] at h
  unfold oddB
  rw [decide_eq_false_iff_not]
  omega
theorem halved_in (ns : List Int) (hl : ns.length = 8) (hb : ∀ n ∈ ns, 0 ≤ n ∧ n < 256) : clF LP n_law13_WashHalved [.agg (ns.map (LV.int .u8))] [] = some (.P, .bool true, []) := by
  obtain ⟨p, bs, e, hp, hb7, hbb⟩ := swell_nat hl hb
  rw [e]
  clear e hb hl
  have hm := fun m => made_c p hp 7 (by omega) (by omega) bs hb7 hbb m
  simp only [show ((7 : Nat) : Int) = 7 from rfl] at hm
  have hk : p % 7 < 7 := Nat.mod_lt _ (by omega)
  obtain ⟨D, hdl⟩ := drawN_td (show 1 ≤ 1 + p % 7 by omega) (show 1 + p % 7 ≤ 7 by omega) bs
  generalize drawN (1 + p % 7) bs = t at *
  have h1 := D.h1
  have h7 := D.h7
  obtain ⟨R, n, K⟩ := known D.T D.h1 D.h7
  obtain ⟨N, W⟩ := halfW D.T h1 h7 K
  have hnp := K.npos
  have hn12 := W.n12
  have hbl : (bys (p :: bs)).length = 8 := by simp [hb7]
  have hps : LV.pures (bys (p :: bs)) = true := pures_int _ _
  have htk : (bys (p :: bs)).take 8 = bys (p :: bs) := List.take_of_length_le (by omega)
  generalize bys (p :: bs) = w8 at *
  have hha := fun m => halvesN_c false false D K W.prod m
  have hbk := fun m => backP_c false false D K D.chk m
  have hod := fun m => oddP_c false false D K D.chk m
  have hpure1 : LV.pures [LV.agg w8] = true := by simp only [LV.pures, LV.pure, hps, Bool.and_true]
  have hl2 : (ci t).length = t.length := ci_len t
  have b1 : ¬ ((n : Int) < 1) := by omega
  have b2 : ¬ (12 < (n : Int)) := by omega
  have r2 : binL .rem (.int .i64 (n : Int)) (.int .i64 2) = some (.int .i64 ((n % 2 : Nat) : Int)) := by rw [bin_rem _ _ _ (show (2 : Int) ≠ 0 by omega)]; rfl
  have w1 : IntKind.i64.wrap ((n : Int) + 1) = ((n + 1 : Nat) : Int) := by rw [wrap_in (by omega)]; simp
  have q2 : binL .quo (.int .i64 ((n + 1 : Nat) : Int)) (.int .i64 2) = some (.int .i64 (((n + 1) / 2 : Nat) : Int)) := by
    rw [bin_quo _ _ _ (show (2 : Int) ≠ 0 by omega)]
    have : ((n + 1 : Nat) : Int).tdiv 2 = (((n + 1) / 2 : Nat) : Int) := rfl
    rw [this, wrap_in (by omega)]
  refine call_P lp_law13_WashHalved rfl hpure1 (m1 := [⟨w8, true⟩]) ?_ rfl []
  -- what comes behind
  have tail : n % 2 = 1 → ∃ a b : Bool, ∀ m, clF LP n_wash_After [IL false false 1 (ci t), .int .i64 (((n + 1) / 2 : Nat) : Int)] m = some (.P, .tup [IL a b 1 (ci (aftV t ((n + 1) / 2))), .int .i64 0], m) := fun ho => by
    obtain ⟨a, b, ha⟩ := afterP_c false false D K D.chk (((n + 1) / 2 : Nat) : Int) (by simp [inB]; omega)
    rw [aftV_mod K] at ha
    exact ⟨a, b, ha⟩
  by_cases hN : N = 0
  · subst hN
    have hev := W.no rfl
    have hhf := fun m => halfN0_c false false D K W.prod m
    have hev' : ((n % 2 : Nat) : Int) = 0 := by omega
    generalize ci t = tt at *
    simp only [law13_WashHalved, law13_WashHalved.B, beqT, beqF, exF_seq, exF_region, exF_block, exF_cond, exF_ret, exF_exit, exF_skip, runL, wantL, stepL, evL, LEnv.at, putL, loadFine, loadL, cellsAt, Trk.putNew, Trk.up, Trk.touch, Trk.gives, Trk.calm, Trk.hit, opdsOf, Trk.fresh, LEnv.keep, LEnv.ofFrom, List.map_cons, List.map_nil, nbeq, nble, nblt, ofAV, ofAVs, lenL, bin_add, bin_sub, bin_mul, bin_eql, bin_neq, bin_lss, bin_leq, bin_gtr, bin_geq, natL_nat, natL_zero, natL_one, natL_two, Nat.zero_mul, List.any_cons, List.any_nil, Bool.or_false, Bool.false_or, Bool.true_or, Bool.or_true, Bool.and_true, Bool.true_and, Bool.and_false, Bool.false_and, Bool.not_true, Bool.not_false, Nat.reduceBEq, Nat.reduceEqDiff, decide_true, decide_false, cond_true, cond_false, List.filter_nil, List.filter_cons, Nat.reduceAdd, Nat.reduceLeDiff, reduceCtorEq, List.length_nil, List.length_cons, Nat.mul_one, if_true, if_false, Bool.false_eq_true, eq_self, and_true, true_and, retL, resultsL, resAllL, resOfL, List.append_nil, List.nil_append, List.cons_append, true_or, or_true, false_or, or_false, false_and, and_false, not_true_eq_false, not_false_eq_true, ne_eq, unL, trim_nil, views_pures, LV.pures, LV.pure, freeze, Nat.reduceDiv, Int.reduceEq, Int.reduceLT, Int.reduceLE, Int.natCast_zero, LV.cells, allocL, List.getElem?_cons_zero, List.getElem?_cons_succ, storeL, spliceL, List.take_zero, List.take_succ_cons, List.drop_zero, List.drop_succ_cons, List.drop_nil, List.take_nil, Nat.le_refl, Nat.reduceMul, List.set_cons_zero, List.set_cons_succ, LV.scalar, List.all_cons, List.all_nil, Nat.lt_add_one, Nat.zero_lt_one, Nat.reduceLT, Nat.lt_irrefl, fillL, List.length_append, foldIntL, kind_beq, pures_int, solids_int, plains_int, unders_int, scalars_int, hbl, htk, hm, hhf, hha, hbk, hod, b1, b2, r2, hev', Bool.xor_self, works_c]
  · obtain ⟨q, hput, hql, hqlt, hqq, hoN⟩ := W.yes (by omega)
    have hN' : (0 : Int) < (N : Int) := by omega
    have hhf := fun m => halfN1_c false false D K W.prod (by omega) hput m
    rw [oddB_N hoN] at hod
    rw [← thenN_mapN] at hqq
    have Q := td_then D hql hqlt hqq
    have hck := fun m => check_c false true 1 (ci q) (by rw [ci_len]; omega) m
    rw [Q.chk] at hck
    have hth := fun m => thenP_c false true false true (ci q) (ci q) (by rw [ci_len]; omega) (by rw [ci_len]; omega) m
    rw [thenV_td Q Q rfl, both_td Q Q rfl, hqq] at hth
    have hsm : ∀ m, clF LP n_law13_same [RLn t, IL false false 1 (ci t)] m = some (.P, .bool true, m) := fun m => same_refl _ _ _ _ _ _ (ci t) (by rw [ci_len]; omega) m
    have hl3 : (ci q).length = t.length := by rw [ci_len, hql]
    by_cases hev : n % 2 = 0
    · have hev' : ((n % 2 : Nat) : Int) = 0 := by omega
      generalize RLn t = X at *
      generalize ci t = tt at *
      generalize ci q = qq at *
      simp only [law13_WashHalved, law13_WashHalved.B, beqT, beqF, exF_seq, exF_region, exF_block, exF_cond, exF_ret, exF_exit, exF_skip, runL, wantL, stepL, evL, LEnv.at, putL, loadFine, loadL, cellsAt, Trk.putNew, Trk.up, Trk.touch, Trk.gives, Trk.calm, Trk.hit, opdsOf, Trk.fresh, LEnv.keep, LEnv.ofFrom, List.map_cons, List.map_nil, nbeq, nble, nblt, ofAV, ofAVs, lenL, bin_add, bin_sub, bin_mul, bin_eql, bin_neq, bin_lss, bin_leq, bin_gtr, bin_geq, natL_nat, natL_zero, natL_one, natL_two, Nat.zero_mul, List.any_cons, List.any_nil, Bool.or_false, Bool.false_or, Bool.true_or, Bool.or_true, Bool.and_true, Bool.true_and, Bool.and_false, Bool.false_and, Bool.not_true, Bool.not_false, Nat.reduceBEq, Nat.reduceEqDiff, decide_true, decide_false, cond_true, cond_false, List.filter_nil, List.filter_cons, Nat.reduceAdd, Nat.reduceLeDiff, reduceCtorEq, List.length_nil, List.length_cons, Nat.mul_one, if_true, if_false, Bool.false_eq_true, eq_self, and_true, true_and, retL, resultsL, resAllL, resOfL, List.append_nil, List.nil_append, List.cons_append, true_or, or_true, false_or, or_false, false_and, and_false, not_true_eq_false, not_false_eq_true, ne_eq, unL, trim_nil, views_pures, LV.pures, LV.pure, freeze, Nat.reduceDiv, Int.reduceEq, Int.reduceLT, Int.reduceLE, Int.natCast_zero, LV.cells, allocL, List.getElem?_cons_zero, List.getElem?_cons_succ, storeL, spliceL, List.take_zero, List.take_succ_cons, List.drop_zero, List.drop_succ_cons, List.drop_nil, List.take_nil, Nat.le_refl, Nat.reduceMul, List.set_cons_zero, List.set_cons_succ, LV.scalar, List.all_cons, List.all_nil, Nat.lt_add_one, Nat.zero_lt_one, Nat.reduceLT, Nat.lt_irrefl, fillL, List.length_append, foldIntL, kind_beq, pures_int, solids_int, plains_int, unders_int, scalars_int, hbl, htk, hm, hhf, hha, hbk, hod, b1, b2, r2, hev', hN', hck, hl2, hl3, hth, hsm, Bool.xor_self, works_c]
    · have hev' : ¬ ((n % 2 : Nat) : Int) = 0 := by omega
      obtain ⟨a, b, haf⟩ := tail (by omega)
      obtain ⟨hA, A⟩ := aft_half D K ((n + 1) / 2) (by omega)
      have hth2 := fun m => thenP_c a b a b (ci (aftV t ((n + 1) / 2))) (ci (aftV t ((n + 1) / 2))) (by rw [ci_len, aftV_ln]; omega) (by rw [ci_len, aftV_ln]; omega) m
      rw [thenV_td A A rfl, both_td A A rfl, hA] at hth2
      generalize RLn t = X at *
      generalize ci (aftV t ((n + 1) / 2)) = aa at *
      generalize ci t = tt at *
      generalize ci q = qq at *
      simp only [law13_WashHalved, law13_WashHalved.B, beqT, beqF, exF_seq, exF_region, exF_block, exF_cond, exF_ret, exF_exit, exF_skip, runL, wantL, stepL, evL, LEnv.at, putL, loadFine, loadL, cellsAt, Trk.putNew, Trk.up, Trk.touch, Trk.gives, Trk.calm, Trk.hit, opdsOf, Trk.fresh, LEnv.keep, LEnv.ofFrom, List.map_cons, List.map_nil, nbeq, nble, nblt, ofAV, ofAVs, lenL, bin_add, bin_sub, bin_mul, bin_eql, bin_neq, bin_lss, bin_leq, bin_gtr, bin_geq, natL_nat, natL_zero, natL_one, natL_two, Nat.zero_mul, List.any_cons, List.any_nil, Bool.or_false, Bool.false_or, Bool.true_or, Bool.or_true, Bool.and_true, Bool.true_and, Bool.and_false, Bool.false_and, Bool.not_true, Bool.not_false, Nat.reduceBEq, Nat.reduceEqDiff, decide_true, decide_false, cond_true, cond_false, List.filter_nil, List.filter_cons, Nat.reduceAdd, Nat.reduceLeDiff, reduceCtorEq, List.length_nil, List.length_cons, Nat.mul_one, if_true, if_false, Bool.false_eq_true, eq_self, and_true, true_and, retL, resultsL, resAllL, resOfL, List.append_nil, List.nil_append, List.cons_append, true_or, or_true, false_or, or_false, false_and, and_false, not_true_eq_false, not_false_eq_true, ne_eq, unL, trim_nil, views_pures, LV.pures, LV.pure, freeze, Nat.reduceDiv, Int.reduceEq, Int.reduceLT, Int.reduceLE, Int.natCast_zero, LV.cells, allocL, List.getElem?_cons_zero, List.getElem?_cons_succ, storeL, spliceL, List.take_zero, List.take_succ_cons, List.drop_zero, List.drop_succ_cons, List.drop_nil, List.take_nil, Nat.le_refl, Nat.reduceMul, List.set_cons_zero, List.set_cons_succ, LV.scalar, List.all_cons, List.all_nil, Nat.lt_add_one, Nat.zero_lt_one, Nat.reduceLT, Nat.lt_irrefl, fillL, List.length_append, foldIntL, kind_beq, pures_int, solids_int, plains_int, unders_int, scalars_int, hbl, htk, hm, hhf, hha, hbk, hod, b1, b2, r2, hev', hN', hck, hl2, hl3, hth, hsm, w1, q2, haf, hth2, Bool.xor_self, works_c]
end Go.Am.Wash


