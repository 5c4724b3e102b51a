import Derived.Test.YtgogknjedpmcgaaWashP2
/-
  Plain: halves of a tide and its friends; the program's search for a half. No statement of the seat is proved here.
-/
set_option linter.unusedVariables false
set_option linter.unusedSimpArgs false
namespace Go.Am.Wash

/-! ### What is left of all tides -/
/-- The tides that are so; what begins badly is left out at once. -/
def flt (n : Nat) (P bad : List Nat → Bool) : Nat → List Nat → List (List Nat)
  | 0, b => cond (P b) [b] []
  | d + 1, b => permsC n (fun b => cond (bad b) [] (flt n P bad d b)) b n 0
theorem permsC_mem (n : Nat) (f : List Nat → List (List Nat)) (b : List Nat) (k : Nat) : ∀ (x : Nat) (q : List Nat), q ∈ permsC n f b k x → ∃ y, q ∈ f (b ++ [y]) := by
  induction k with
  | zero => intro x q h; simp [permsC] at h
  | succ k ih =>
    intro x q h
    rw [permsC, List.mem_append] at h
    rcases h with h | h
    · cases c : hasN b x
      · rw [c] at h; exact ⟨x, h⟩
      · rw [c] at h; simp at h
    · exact ih _ _ h
theorem perms_ext (n : Nat) (d : Nat) : ∀ (b q : List Nat), q ∈ perms n d b → ∃ r, q = b ++ r := by
  induction d with
  | zero => intro b q h; rw [perms, List.mem_singleton] at h; exact ⟨[], by simp [h]⟩
  | succ d ih =>
    intro b q h
    obtain ⟨y, h⟩ := permsC_mem _ _ _ _ _ _ h
    obtain ⟨r, e⟩ := ih _ _ h
    exact ⟨y :: r, by simp [e]⟩
theorem permsC_flt (n : Nat) (P : List Nat → Bool) (f g : List Nat → List (List Nat)) (b : List Nat) (h : ∀ y, g (b ++ [y]) = (f (b ++ [y])).filter P) (k : Nat) : ∀ x, permsC n g b k x = (permsC n f b k x).filter P := by
  induction k with
  | zero => intro x; rfl
  | succ k ih =>
    intro x
    rw [permsC, permsC, List.filter_append, ih]
    cases hasN b x
    · simp only [cond_false]; rw [h]
    · rfl
theorem flt_ok (n : Nat) (P bad : List Nat → Bool) (h : ∀ b r, bad b = true → P (b ++ r) = false) (d : Nat) : ∀ b, flt n P bad d b = (perms n d b).filter P := by
  induction d with
  | zero => intro b; rw [flt, perms]; cases c : P b <;> simp [c]
  | succ d ih =>
    intro b
    rw [flt, perms]
    refine permsC_flt n P _ _ b (fun y => ?_) n 0
    cases c : bad (b ++ [y])
    · simp only [cond_false]; rw [ih]
    · simp only [cond_true]
      symm
      rw [List.filter_eq_nil_iff]
      intro q hq
      obtain ⟨r, rfl⟩ := perms_ext _ _ _ _ hq
      rw [h _ _ c]; simp

/-! ### Halves and friends -/
def isHalf (t q : List Nat) : Bool := eqN (mapN q q) t
def badH (t b : List Nat) : Nat → Nat → Bool
  | 0, _ => false
  | n + 1, k => cond (Nat.blt (nth b k) b.length) (cond (Nat.beq (nth b (nth b k)) (nth t k)) (badH t b n (k + 1)) true) (badH t b n (k + 1))
def isFriend (t q : List Nat) : Bool := eqN (mapN t q) (mapN q t)
def badC (t b : List Nat) : Nat → Nat → Bool
  | 0, _ => false
  | n + 1, k => cond (Nat.blt (nth t k) b.length) (cond (Nat.beq (nth b (nth t k)) (nth t (nth b k))) (badC t b n (k + 1)) true) (badC t b n (k + 1))
def halvesF (t : List Nat) : List (List Nat) := flt t.length (isHalf t) (fun b => badH t b b.length 0) t.length []
def friendsF (t : List Nat) : List (List Nat) := flt t.length (isFriend t) (fun b => badC t b b.length 0) t.length []
theorem mapN_nth (b : List Nat) : ∀ (a : List Nat) (k : Nat), k < a.length → nth (mapN b a) k = nth b (nth a k)
  | [], _, h => by simp at h
  | x :: r, 0, _ => rfl
  | x :: r, k + 1, h => by
    rw [mapN, nth, nth]; exact mapN_nth b r k (by simpa using h)
theorem nth_app (b r : List Nat) (k : Nat) (h : k < b.length) : nth (b ++ r) k = nth b k := by
  rw [nth_at' _ k (by simp; omega), nth_at' b k h, List.getElem_append_left]
theorem blt_of {a b : Nat} (h : Nat.blt a b = true) : a < b := by simpa [Nat.blt_eq] using h
theorem badH_ok (t b : List Nat) (n : Nat) : ∀ k, badH t b n k = true → ∃ p, p < k + n ∧ nth b p < b.length ∧ nth b (nth b p) ≠ nth t p := by
  induction n with
  | zero => intro k h; cases h
  | succ n ih =>
    intro k h
    rw [badH] at h
    cases c : Nat.blt (nth b k) b.length
    · rw [c, cond_false] at h
      obtain ⟨p, h1, h2⟩ := ih _ h
      exact ⟨p, by omega, h2⟩
    · rw [c, cond_true] at h
      cases c2 : Nat.beq (nth b (nth b k)) (nth t k)
      · refine ⟨k, by omega, blt_of c, fun e => ?_⟩
        rw [e, Nat.beq_refl] at c2; cases c2
      · rw [c2, cond_true] at h
        obtain ⟨p, h1, h2⟩ := ih _ h
        exact ⟨p, by omega, h2⟩
theorem halvesF_ok (t : List Nat) : halvesF t = (perms t.length t.length []).filter (isHalf t) := by
  refine flt_ok _ _ _ (fun b r h => ?_) _ _
  obtain ⟨p, h1, h2, h3⟩ := badH_ok _ _ _ _ h
  rw [Bool.eq_false_iff]
  intro c
  have e := eqN_ok _ _ c
  have h4 := mapN_nth (b ++ r) (b ++ r) p (by simp; omega)
  rw [e, nth_app b r p (by omega), nth_app b r _ h2] at h4
  exact h3 h4.symm
/-! ### How many there are, by the lengths of rings -/
/-- In how many ways rings of a length go together. -/
def matN (m : Nat) : Nat → Nat
  | 0 => 1
  | 1 => cond (Nat.beq (m % 2) 1) 1 0
  | k + 2 => cond (Nat.beq (m % 2) 1) (matN m (k + 1)) 0 + (k + 1) * m * matN m k
def prodF (R : List (List Nat)) : Nat → Nat → Nat → Option Nat
  | 0, _, a => some a
  | n + 1, m, a => cond (Nat.ble (a * matN m (cntN R m)) 1152921504606846976) (prodF R n (m + 1) (a * matN m (cntN R m))) none
def facF (m : Nat) : Nat → Nat → Nat → Option Nat
  | 0, _, a => some a
  | k + 1, i, a => cond (Nat.ble (a * (m * (i + 1))) 1152921504606846976) (facF m k (i + 1) (a * (m * (i + 1)))) none
def facA (R : List (List Nat)) : Nat → Nat → Nat → Option Nat
  | 0, _, a => some a
  | n + 1, m, a => match facF m (cntN R m) 0 a with
    | some a' => facA R n (m + 1) a'
    | none => none

/-! ### The program's search: 0 is a place not known, x + 1 the place x -/
def folF (t : List Nat) : Nat → List Nat → Nat → Nat → Option (Bool × List Nat)
  | 0, _, _, _ => none
  | f + 1, h, p, q => cond (Nat.beq (nth h p) (q + 1)) (some (true, h)) (cond (cond (Nat.blt 0 (nth h p)) true (hasN h (q + 1))) (some (false, h)) (folF t f (h.set p (q + 1)) q (nth t p)))
def putC (t : List Nat) (g : List Nat → Option (Bool × List Nat)) (p : Nat) (h : List Nat) : Nat → Nat → Option (Bool × List Nat)
  | 0, _ => some (false, h)
  | k + 1, q => match folF t 20 h p q with
    | some (true, h') => match g h' with
      | some (true, h2) => some (true, h2)
      | some (false, _) => putC t g p h k (q + 1)
      | none => none
    | some (false, _) => putC t g p h k (q + 1)
    | none => none
/-- d places are still to come. -/
def putF (t : List Nat) (n : Nat) : Nat → List Nat → Option (Bool × List Nat)
  | 0, h => some (true, h)
  | d + 1, h => cond (Nat.blt 0 (nth h (n - (d + 1)))) (putF t n d h) (putC t (putF t n d) (n - (d + 1)) h n 0)
def inc : List Nat → List Nat
  | [] => []
  | x :: r => (x + 1) :: inc r
def halfOk (t : List Nat) : List (List Nat) → Bool
  | [] => true
  | q :: _ => match putF t t.length t.length (List.replicate t.length 0) with
    | some (true, h) => eqN h (inc q)
    | _ => false
def chkH (t : List Nat) : Bool := match ringsP t with
  | some R => cond (eqO (prodF R 8 0 1) (halvesF t).length) (cond (halfOk t (halvesF t)) (eqO (facA R 8 0 1) (friendsF t).length) false) false
  | none => false
end Go.Am.Wash

/-
  Plain: halves and friends: tides of six places that begin with 0 are tried by the kernel. No statement of the seat is proved here.
-/
set_option linter.unusedVariables false
namespace Go.Am.Wash
theorem h6_01 : allP 6 chkH 4 [0, 1] = true := by kernel_rfl
theorem h6_02 : allP 6 chkH 4 [0, 2] = true := by kernel_rfl
theorem h6_03 : allP 6 chkH 4 [0, 3] = true := by kernel_rfl
theorem h6_04 : allP 6 chkH 4 [0, 4] = true := by kernel_rfl
theorem h6_05 : allP 6 chkH 4 [0, 5] = true := by kernel_rfl
theorem h6_0 : allP 6 chkH 5 [0] = true := allP_one 6 chkH 4 [0] fun y hy hb => match y, hy, hb with
  | 0, _, hb => absurd (by simp) hb
  | 1, _, _ => h6_01
  | 2, _, _ => h6_02
  | 3, _, _ => h6_03
  | 4, _, _ => h6_04
  | 5, _, _ => h6_05
end Go.Am.Wash

/-
  Plain: halves and friends: tides of six places that begin with 1 are tried by the kernel. No statement of the seat is proved here.
-/
set_option linter.unusedVariables false
namespace Go.Am.Wash
theorem h6_10 : allP 6 chkH 4 [1, 0] = true := by kernel_rfl
theorem h6_12 : allP 6 chkH 4 [1, 2] = true := by kernel_rfl
theorem h6_13 : allP 6 chkH 4 [1, 3] = true := by kernel_rfl
theorem h6_14 : allP 6 chkH 4 [1, 4] = true := by kernel_rfl
theorem h6_15 : allP 6 chkH 4 [1, 5] = true := by kernel_rfl
theorem h6_1 : allP 6 chkH 5 [1] = true := allP_one 6 chkH 4 [1] fun y hy hb => match y, hy, hb with
  | 0, _, _ => h6_10
  | 1, _, hb => absurd (by simp) hb
  | 2, _, _ => h6_12
  | 3, _, _ => h6_13
  | 4, _, _ => h6_14
  | 5, _, _ => h6_15
end Go.Am.Wash

/-
  Plain: halves and friends: tides of six places that begin with 2 are tried by the kernel. No statement of the seat is proved here.
-/
set_option linter.unusedVariables false
namespace Go.Am.Wash
theorem h6_20 : allP 6 chkH 4 [2, 0] = true := by kernel_rfl
theorem h6_21 : allP 6 chkH 4 [2, 1] = true := by kernel_rfl
theorem h6_23 : allP 6 chkH 4 [2, 3] = true := by kernel_rfl
theorem h6_24 : allP 6 chkH 4 [2, 4] = true := by kernel_rfl
theorem h6_25 : allP 6 chkH 4 [2, 5] = true := by kernel_rfl
theorem h6_2 : allP 6 chkH 5 [2] = true := allP_one 6 chkH 4 [2] fun y hy hb => match y, hy, hb with
  | 0, _, _ => h6_20
  | 1, _, _ => h6_21
  | 2, _, hb => absurd (by simp) hb
  | 3, _, _ => h6_23
  | 4, _, _ => h6_24
  | 5, _, _ => h6_25
end Go.Am.Wash

/-
  Plain: halves and friends: tides of six places that begin with 3 are tried by the kernel. No statement of the seat is proved here.
-/
set_option linter.unusedVariables false
namespace Go.Am.Wash
theorem h6_30 : allP 6 chkH 4 [3, 0] = true := by kernel_rfl
theorem h6_31 : allP 6 chkH 4 [3, 1] = true := by kernel_rfl
theorem h6_32 : allP 6 chkH 4 [3, 2] = true := by kernel_rfl
theorem h6_34 : allP 6 chkH 4 [3, 4] = true := by kernel_rfl
theorem h6_35 : allP 6 chkH 4 [3, 5] = true := by kernel_rfl
theorem h6_3 : allP 6 chkH 5 [3] = true := allP_one 6 chkH 4 [3] fun y hy hb => match y, hy, hb with
  | 0, _, _ => h6_30
  | 1, _, _ => h6_31
  | 2, _, _ => h6_32
  | 3, _, hb => absurd (by simp) hb
  | 4, _, _ => h6_34
  | 5, _, _ => h6_35
end Go.Am.Wash

/-
  Plain: halves and friends: tides of six places that begin with 4 are tried by the kernel. No statement of the seat is proved here.
-/
set_option linter.unusedVariables false
namespace Go.Am.Wash
theorem h6_40 : allP 6 chkH 4 [4, 0] = true := by kernel_rfl
theorem h6_41 : allP 6 chkH 4 [4, 1] = true := by kernel_rfl
theorem h6_42 : allP 6 chkH 4 [4, 2] = true := by kernel_rfl
theorem h6_43 : allP 6 chkH 4 [4, 3] = true := by kernel_rfl
theorem h6_45 : allP 6 chkH 4 [4, 5] = true := by kernel_rfl
theorem h6_4 : allP 6 chkH 5 [4] = true := allP_one 6 chkH 4 [4] fun y hy hb => match y, hy, hb with
  | 0, _, _ => h6_40
  | 1, _, _ => h6_41
  | 2, _, _ => h6_42
  | 3, _, _ => h6_43
  | 4, _, hb => absurd (by simp) hb
  | 5, _, _ => h6_45
end Go.Am.Wash

/-
  Plain: halves and friends: tides of six places that begin with 5 are tried by the kernel. No statement of the seat is proved here.
-/
set_option linter.unusedVariables false
namespace Go.Am.Wash
theorem h6_50 : allP 6 chkH 4 [5, 0] = true := by kernel_rfl
theorem h6_51 : allP 6 chkH 4 [5, 1] = true := by kernel_rfl
theorem h6_52 : allP 6 chkH 4 [5, 2] = true := by kernel_rfl
theorem h6_53 : allP 6 chkH 4 [5, 3] = true := by kernel_rfl
theorem h6_54 : allP 6 chkH 4 [5, 4] = true := by kernel_rfl
theorem h6_5 : allP 6 chkH 5 [5] = true := allP_one 6 chkH 4 [5] fun y hy hb => match y, hy, hb with
  | 0, _, _ => h6_50
  | 1, _, _ => h6_51
  | 2, _, _ => h6_52
  | 3, _, _ => h6_53
  | 4, _, _ => h6_54
  | 5, _, hb => absurd (by simp) hb
end Go.Am.Wash

/-
  Plain: halves and friends of all tides of at most six places were tried by the kernel. No statement of the seat is proved here.
-/
set_option linter.unusedVariables false
namespace Go.Am.Wash
theorem h1 : allP 1 chkH 1 [] = true := by kernel_rfl
theorem h2 : allP 2 chkH 2 [] = true := by kernel_rfl
theorem h3 : allP 3 chkH 3 [] = true := by kernel_rfl
theorem h4 : allP 4 chkH 4 [] = true := by kernel_rfl
theorem h5 : allP 5 chkH 5 [] = true := by kernel_rfl
theorem h6 : allP 6 chkH 6 [] = true := allP_one 6 chkH 5 [] fun y hy _ => match y, hy with
  | 0, _ => h6_0 | 1, _ => h6_1 | 2, _ => h6_2 | 3, _ => h6_3 | 4, _ => h6_4 | 5, _ => h6_5
theorem chkH_all {t : List Nat} (h : Tide t.length t) (h1' : 1 ≤ t.length) (h6' : t.length ≤ 6) : chkH t = true := by
  have hm : allP t.length chkH t.length [] = true := by
    match hn : t.length, h1', h6' with
    | 1, _, _ => exact h1
    | 2, _, _ => exact h2
    | 3, _, _ => exact h3
    | 4, _, _ => exact h4
    | 5, _, _ => exact h5
    | 6, _, _ => exact h6
  exact tide_all hm h
theorem eqO_ok {a : Option Nat} {b : Nat} (h : eqO a b = true) : a = some b := by
  cases a with
  | none => cases h
  | some x => rw [eqO] at h; rw [Nat.eq_of_beq_eq_true h]
theorem inc_map : ∀ l : List Nat, inc l = l.map (· + 1)
  | [] => rfl
  | x :: r => by rw [inc, inc_map r]; rfl
/-- What was tried. -/
structure Halved (t : List Nat) (R : List (List Nat)) : Prop where
  n : prodF R 8 0 1 = some (halvesF t).length
  first : ∀ q r, halvesF t = q :: r → putF t t.length t.length (List.replicate t.length 0) = some (true, q.map (· + 1))
  fr : facA R 8 0 1 = some (friendsF t).length
theorem halved {t : List Nat} (h : Tide t.length t) (h1 : 1 ≤ t.length) (h6 : t.length ≤ 6) {R : List (List Nat)} (hR : ringsP t = some R) : Halved t R := by
  have hc := chkH_all h h1 h6
  unfold chkH at hc
  simp only [hR] at hc
  obtain ⟨a, hc⟩ := cond_split hc
  obtain ⟨b, c⟩ := cond_split hc
  refine ⟨eqO_ok a, fun q r e => ?_, eqO_ok c⟩
  rw [e, halfOk] at b
  split at b
  · rename_i x hx
    rw [hx, eqN_ok _ _ b, inc_map]
  · cases b
end Go.Am.Wash


