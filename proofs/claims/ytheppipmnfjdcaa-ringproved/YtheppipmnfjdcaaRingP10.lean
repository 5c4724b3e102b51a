import Derived.Test.YtheppipmnfjdcaaRingC16
import Derived.Test.YtheppipmnfjdcaaRingC18
import Derived.Test.YtheppipmnfjdcaaRingC27
/-
  Forms and finds, in plain: whether some finds make no ring; rings come in ascending order; lists of two and three finds.
-/
set_option linter.unusedVariables false
set_option linter.unusedSimpArgs false
namespace Go.Am.Ring

/-! ### No ring -/
/-- The finds of a set. -/
def subP (P : List (Nat × Nat)) (S : Nat) : List (Nat × Nat) := ((List.range P.length).filter fun i => S.testBit i).map fun i => P.getD i (0, 0)
theorem subP_mem {P : List (Nat × Nat)} {S : Nat} {p : Nat × Nat} : p ∈ subP P S ↔ ∃ i, i < P.length ∧ S.testBit i = true ∧ (st P i, en P i) = p := by
  simp only [subP, List.mem_map, List.mem_filter, List.mem_range, st, en]
  constructor
  · rintro ⟨i, ⟨h1, h2⟩, h3⟩; exact ⟨i, h1, h2, h3⟩
  · rintro ⟨i, h1, h2, h3⟩; exact ⟨i, ⟨h1, h2⟩, h3⟩
theorem subP_good {n : Nat} {P : List (Nat × Nat)} (G : Good n P) (S : Nat) : Good n (subP P S) := by
  refine ⟨G.pos, G.le6, ?_, fun p hp => ?_, fun p hp => ?_⟩
  · unfold subP
    rw [List.length_map]
    have := List.length_filter_le (fun i => S.testBit i) (List.range P.length)
    rw [List.length_range] at this
    have := G.le12
    omega
  · obtain ⟨i, h1, _, rfl⟩ := subP_mem.1 hp
    have := st_lt G h1
    exact ⟨this.1, this.2.1⟩
  · obtain ⟨i, h1, _, rfl⟩ := subP_mem.1 hp
    exact (st_lt G h1).2.2
theorem subP_all (P : List (Nat × Nat)) : subP P (2 ^ P.length - 1) = P := by
  unfold subP
  have : (List.range P.length).filter (fun i => (2 ^ P.length - 1).testBit i) = List.range P.length := by
    rw [List.filter_eq_self]
    intro i hi
    rw [Nat.testBit_two_pow_sub_one]
    simpa using hi
  rw [this]
  apply List.ext_getElem?
  intro i
  rw [List.getElem?_map]
  by_cases h : i < P.length
  · rw [List.getElem?_range h, List.getElem?_eq_getElem h, Option.map_some, getD_at P i _ h]
  · rw [List.getElem?_eq_none (by simp; omega), List.getElem?_eq_none (by omega)]; rfl
/-- Which forms are told to be later than some that are left, by the first k finds. -/
def latK (P : List (Nat × Nat)) (S left k : Nat) : Nat := (List.range k).foldl (fun a i => if S.testBit i = true ∧ left.testBit (st P i) = true then a ||| 2 ^ en P i else a) 0
theorem latK_succ (P : List (Nat × Nat)) (S left k : Nat) : latK P S left (k + 1) = if S.testBit k = true ∧ left.testBit (st P k) = true then latK P S left k ||| 2 ^ en P k else latK P S left k := by
  simp [latK, List.range_succ]
abbrev latN (P : List (Nat × Nat)) (S left : Nat) : Nat := latK P S left P.length
theorem latK_bit (P : List (Nat × Nat)) (S left x : Nat) : ∀ k, (latK P S left k).testBit x = true ↔ ∃ i, i < k ∧ S.testBit i = true ∧ left.testBit (st P i) = true ∧ en P i = x
  | 0 => by simp [latK]
  | k + 1 => by
    rw [latK_succ]
    have ih := latK_bit P S left x k
    split
    · rename_i h
      rw [Nat.testBit_or, Nat.testBit_two_pow, Bool.or_eq_true, ih, decide_eq_true_eq]
      constructor
      · rintro (⟨i, h1, h2⟩ | h1)
        · exact ⟨i, by omega, h2⟩
        · exact ⟨k, by omega, h.1, h.2, h1⟩
      · rintro ⟨i, h1, h2, h3, h4⟩
        rcases Nat.lt_or_eq_of_le (Nat.le_of_lt_succ h1) with h5 | h5
        · exact .inl ⟨i, h5, h2, h3, h4⟩
        · subst h5; exact .inr h4
    · rename_i h
      rw [ih]
      constructor
      · rintro ⟨i, h1, h2⟩
        exact ⟨i, by omega, h2⟩
      · rintro ⟨i, h1, h2, h3, h4⟩
        rcases Nat.lt_or_eq_of_le (Nat.le_of_lt_succ h1) with h5 | h5
        · exact ⟨i, h5, h2, h3, h4⟩
        · subst h5; exact absurd ⟨h2, h3⟩ h
theorem latK_lt {n : Nat} {P : List (Nat × Nat)} (G : Good n P) (S left : Nat) : ∀ k, k ≤ P.length → latK P S left k < 64
  | 0, _ => by simp [latK]
  | k + 1, h => by
    have ih := latK_lt G S left k (by omega)
    rw [latK_succ]
    split
    · have := (st_lt G (show k < P.length by omega)).2.1
      have := G.le6
      exact Nat.or_lt_two_pow (n := 6) ih (Nat.pow_lt_pow_right (by omega) (by omega))
    · exact ih
/-- As long as some form is not told to be later than another one, it goes. -/
def rlF (P : List (Nat × Nat)) (S : Nat) : Nat → Nat → Bool
  | 0, _ => true
  | u + 1, left => if left = 0 then true else if left &&& latN P S left = left then false else rlF P S u (left &&& latN P S left)
theorem and_le (a b : Nat) : a &&& b ≤ a := Nat.and_le_left
theorem rlF_ring {n : Nat} {P : List (Nat × Nat)} (G : Good n P) (S : Nat) : ∀ (u left : Nat), left < 2 ^ n → left ≤ u → (rlF P S u left = true ↔ ¬ ∃ c, Cyc (subP P S) c ∧ ∀ k ∈ c, left.testBit (st (subP P S) k) = true)
  | 0, left, _, h => by
    obtain rfl : left = 0 := by omega
    simp only [rlF, true_iff]
    rintro ⟨c, C, h⟩
    obtain ⟨k, r, rfl⟩ := List.exists_cons_of_ne_nil C.ne
    have := h k (by simp)
    simp at this
  | u + 1, left, hl, hu => by
    have GS := subP_good G S
    rw [rlF]
    split
    · rename_i h0
      subst h0
      simp only [true_iff]
      rintro ⟨c, C, h⟩
      obtain ⟨k, r, rfl⟩ := List.exists_cons_of_ne_nil C.ne
      have := h k (by simp)
      simp at this
    · rename_i h0
      have hlat : ∀ x, (latN P S left).testBit x = true ↔ ∃ k, k < (subP P S).length ∧ en (subP P S) k = x ∧ left.testBit (st (subP P S) k) = true := by
        intro x
        rw [latN, latK_bit]
        constructor
        · rintro ⟨i, h1, h2, h3, h4⟩
          have hm : (st P i, en P i) ∈ subP P S := subP_mem.2 ⟨i, h1, h2, rfl⟩
          obtain ⟨k, hk, e⟩ := List.getElem_of_mem hm
          refine ⟨k, hk, ?_, ?_⟩
          · rw [en, getD_at _ k _ hk, e]; exact h4
          · rw [st, getD_at _ k _ hk, e]; exact h3
        · rintro ⟨k, hk, h1, h2⟩
          obtain ⟨i, h3, h4, h5⟩ := subP_mem.1 (List.getElem_mem hk)
          rw [en, getD_at _ k _ hk, ← h5] at h1
          rw [st, getD_at _ k _ hk, ← h5] at h2
          exact ⟨i, h3, h4, h2, h1⟩
      split
      · rename_i h1
        simp only [Bool.false_eq_true, false_iff, Decidable.not_not]
        -- each form that is left is told to be later than one that is left
        have hsub : ∀ x, left.testBit x = true → (latN P S left).testBit x = true := by
          intro x hx
          have := congrArg (·.testBit x) h1
          simp only [Nat.testBit_and, hx, Bool.true_and] at this
          exact this
        obtain ⟨x0, hx0⟩ : ∃ x, left.testBit x = true := by
          rcases Classical.em (∃ x, left.testBit x = true) with h | h
          · exact h
          · exfalso
            apply h0
            apply Nat.eq_of_testBit_eq
            intro x
            rw [Nat.zero_testBit]
            cases hb : left.testBit x
            · rfl
            · exact absurd ⟨x, hb⟩ h
        have hxn : ∀ x, left.testBit x = true → x < n := fun x hx => by
          rcases Nat.lt_or_ge x n with h | h
          · exact h
          · rw [Nat.testBit_lt_two_pow (Nat.lt_of_lt_of_le hl (Nat.pow_le_pow_right (by omega) h))] at hx; cases hx
        obtain ⟨k0, hk0, e0, l0⟩ := (hlat x0).1 (hsub x0 hx0)
        exact not_not_intro (cyc_left GS hsub hlat hxn k0 hk0 l0)
      · rename_i h1
        have hlt : left &&& latN P S left < left := by
          have := and_le left (latN P S left)
          omega
        rw [rlF_ring G S u _ (Nat.lt_of_le_of_lt (and_le _ _) hl) (by omega)]
        refine not_congr ⟨?_, ?_⟩
        · rintro ⟨c, C, h⟩
          refine ⟨c, C, fun k hk => ?_⟩
          have := h k hk
          rw [Nat.testBit_and, Bool.and_eq_true] at this
          exact this.1
        · rintro ⟨c, C, h⟩
          refine ⟨c, C, fun k hk => ?_⟩
          rw [Nat.testBit_and, Bool.and_eq_true]
          refine ⟨h k hk, (hlat _).2 ?_⟩
          -- the find before it in the ring
          obtain ⟨i, hi, rfl⟩ := List.getElem_of_mem hk
          have hpos : 0 < c.length := by omega
          cases i with
          | zero =>
            have hll : c.length - 1 < c.length := by omega
            refine ⟨c[c.length - 1], C.lt _ (List.getElem_mem _), ?_, h _ (List.getElem_mem _)⟩
            rw [last_el c hll, C.cl, ← head_at c hpos]
          | succ i =>
            refine ⟨c[i], C.lt _ (List.getElem_mem _), (chain_iff c).1 C.ch i hi, h _ (List.getElem_mem _)⟩
where
  cyc_left {n : Nat} {Q : List (Nat × Nat)} (GS : Good n Q) {left : Nat} {lat : Nat} (hsub : ∀ x, left.testBit x = true → lat.testBit x = true) (hlat : ∀ x, lat.testBit x = true ↔ ∃ k, k < Q.length ∧ en Q k = x ∧ left.testBit (st Q k) = true) (hxn : ∀ x, left.testBit x = true → x < n) (k0 : Nat) (hk0 : k0 < Q.length) (l0 : left.testBit (st Q k0) = true) : ∃ c, Cyc Q c ∧ ∀ k ∈ c, left.testBit (st Q k) = true := by
    -- going back, a form is met again
    have key : ∀ (u : Nat) (b : List Nat), Beg n Q b → Chain Q b → (∀ k ∈ b, left.testBit (st Q k) = true) → b.length + u = n + 1 → ∃ c, Cyc Q c ∧ ∀ k ∈ c, left.testBit (st Q k) = true := by
      intro u
      induction u with
      | zero =>
        intro b B _ _ hu
        exfalso
        have := nodup_le (b.map (st Q)) (List.range n) B.nd (fun x hx => by
          obtain ⟨k, hk, rfl⟩ := List.mem_map.1 hx
          exact List.mem_range.2 (st_lt GS (B.lt k hk)).1)
        simp at this; omega
      | succ u ih =>
        intro b B hch hb hu
        have hpos : 0 < b.length := List.length_pos_iff.2 B.ne
        have hh : b.headD 0 ∈ b := by rw [← head_at b hpos]; exact List.getElem_mem _
        obtain ⟨k, hk, e1, e2⟩ := (hlat (st Q (b.headD 0))).1 (hsub _ (hb _ hh))
        by_cases hf : st Q k ∈ b.map (st Q)
        · -- it closes
          obtain ⟨y, hy, e3⟩ := List.mem_map.1 hf
          obtain ⟨A, B', hAB⟩ := List.append_of_mem hy
          refine ⟨k :: A, ?_, ?_⟩
          · have hnd := B.nd
            rw [hAB, List.map_append, List.nodup_append] at hnd
            have hA : ∀ q ∈ A, st Q q ≠ st Q y := fun q hq => hnd.2.2 _ (List.mem_map.2 ⟨q, hq, rfl⟩) _ (by simp)
            have hchA := (chain_append A (y :: B')).1 (by rw [← hAB]; exact hch)
            refine ⟨by simp, ?_, ?_, ?_, ?_⟩
            · intro q hq
              rcases List.mem_cons.1 hq with rfl | hq
              · exact hk
              · exact B.lt q (by rw [hAB]; simp [hq])
            · rw [List.map_cons, List.nodup_cons]
              refine ⟨fun hm => ?_, hnd.1⟩
              obtain ⟨q, hq, e⟩ := List.mem_map.1 hm
              exact hA q hq (e.trans e3.symm)
            · cases A with
              | nil => trivial
              | cons a A =>
                refine ⟨?_, hchA.1⟩
                rw [e1, hAB]; rfl
            · show en Q ((k :: A).getLastD 0) = st Q k
              cases A with
              | nil =>
                show en Q k = st Q k
                rw [e1, hAB, ← e3]; rfl
              | cons a A =>
                have := hchA.2.2 (by simp) (by simp)
                rw [← e3]
                have e4 : (k :: a :: A).getLastD 0 = (a :: A).getLastD 0 := by simp [List.getLastD]
                rw [e4, this]; rfl
          · intro q hq
            rcases List.mem_cons.1 hq with rfl | hq
            · exact e2
            · exact hb q (by rw [hAB]; simp [hq])
        · have B2 : Beg n Q (k :: b) := ⟨by simp, fun q hq => by
            rcases List.mem_cons.1 hq with rfl | hq
            · exact hk
            · exact B.lt q hq, by rw [List.map_cons, List.nodup_cons]; exact ⟨hf, B.nd⟩⟩
          refine ih (k :: b) B2 ?_ ?_ (by simp; omega)
          · obtain ⟨a, t, rfl⟩ := List.exists_cons_of_ne_nil B.ne
            exact ⟨e1, hch⟩
          · intro q hq
            rcases List.mem_cons.1 hq with rfl | hq
            · exact e2
            · exact hb q hq
    exact key n [k0] ⟨by simp, by simpa using hk0, by simp⟩ trivial (by simpa using l0) (by simp; omega)
theorem rlF_all {n : Nat} {P : List (Nat × Nat)} (G : Good n P) (S : Nat) : rlF P S (2 ^ n - 1) (2 ^ n - 1) = decide (allR (subP P S) = []) := by
  have GS := subP_good G S
  have h := rlF_ring G S (2 ^ n - 1) (2 ^ n - 1) (by have := Nat.pow_pos (a := 2) (n := n) (by omega); omega) (Nat.le_refl _)
  have hb : ∀ k, k < (subP P S).length → (2 ^ n - 1).testBit (st (subP P S) k) = true := fun k hk => by
    rw [Nat.testBit_two_pow_sub_one]; simpa using (st_lt GS hk).1
  rw [Bool.eq_iff_iff, h, decide_eq_true_eq]
  constructor
  · intro hno
    rcases Classical.em (allR (subP P S) = []) with h | h
    · exact h
    · exfalso
      obtain ⟨o, t, e⟩ := List.exists_cons_of_ne_nil h
      have hc := ((allR_mem GS o).1 (by rw [e]; simp)).1
      exact hno ⟨o, hc, fun k hk => hb k (hc.lt k hk)⟩
  · rintro he ⟨c, C, _⟩
    obtain ⟨o, ho⟩ := cyc_min GS C
    rw [he] at ho; simp at ho

/-! ### Lists that are rings -/
def clF' (P : List (Nat × Nat)) (R : List Nat) : Bool := decide (2 ≤ R.length ∧ (∀ x ∈ R.tail, R.headD 0 ≤ x) ∧ cyF P R R.length 0 = true)
theorem closes_iff {n : Nat} {P : List (Nat × Nat)} (G : Good n P) {R : List Nat} (hlt : ∀ k ∈ R, k < P.length) : clF' P R = decide (R ∈ allR P) := by
  unfold clF'
  rw [decide_eq_decide, allR_mem G]
  by_cases hne : R = []
  · subst hne
    constructor
    · rintro ⟨h, _⟩; simp at h
    · rintro ⟨h, _⟩; exact absurd rfl h.ne
  · rw [cyc_iff hne hlt]
    obtain ⟨a, t, rfl⟩ := List.exists_cons_of_ne_nil hne
    constructor
    · rintro ⟨_, h2, h3⟩
      refine ⟨h3, fun k hk => ?_⟩
      have C := (cyc_iff hne hlt).2 h3
      have hnd := C.nd
      rw [List.map_cons, List.nodup_cons] at hnd
      have := h2 k hk
      have hka : k ≠ a := fun e => hnd.1 (List.mem_map.2 ⟨k, hk, by rw [e]⟩)
      show a < k
      have : a ≤ k := this
      omega
    · rintro ⟨h1, h2⟩
      refine ⟨?_, fun x hx => Nat.le_of_lt (h2 x hx), h1⟩
      have C := (cyc_iff hne hlt).2 h1
      cases t with
      | nil =>
        exfalso
        have := C.cl
        exact (st_lt G (hlt a (by simp))).2.2 this.symm
      | cons b t => simp

/-! ### Ascending -/
def LexB (x y : List Nat) : Prop := ∃ c i j s t, x = c ++ i :: s ∧ y = c ++ j :: t ∧ i < j
theorem ringsU_pre (P : List (Nat × Nat)) : ∀ (u : Nat) (b o : List Nat), o ∈ ringsU P u b → ∃ r, o = b ++ r
  | 0, b, o, h => by simp [ringsU] at h
  | u + 1, b, o, h => by
    rw [ringsU] at h
    split at h
    · exact ⟨[], by simpa using h⟩
    · obtain ⟨i, _, hi⟩ := List.mem_flatMap.1 h
      split at hi
      · obtain ⟨r, rfl⟩ := ringsU_pre P u _ o hi
        exact ⟨i :: r, by simp⟩
      · simp at hi
theorem pw_flat {f : Nat → List (List Nat)} {b : List Nat} (hf : ∀ i, (f i).Pairwise LexB) (hp : ∀ i, ∀ o ∈ f i, ∃ r, o = b ++ i :: r) : ∀ (l : List Nat), l.Pairwise (· < ·) → (l.flatMap f).Pairwise LexB
  | [], _ => List.Pairwise.nil
  | i :: l, h => by
    rw [List.pairwise_cons] at h
    rw [List.flatMap_cons, List.pairwise_append]
    refine ⟨hf i, pw_flat hf hp l h.2, fun x hx y hy => ?_⟩
    obtain ⟨j, hj, hy⟩ := List.mem_flatMap.1 hy
    obtain ⟨r, rfl⟩ := hp i x hx
    obtain ⟨s, rfl⟩ := hp j y hy
    exact ⟨b, i, j, r, s, rfl, rfl, h.1 j hj⟩
theorem ringsU_asc (P : List (Nat × Nat)) : ∀ (u : Nat) (b : List Nat), (ringsU P u b).Pairwise LexB
  | 0, b => by rw [ringsU]; exact List.Pairwise.nil
  | u + 1, b => by
    rw [ringsU]
    split
    · exact List.pairwise_singleton _ _
    · refine pw_flat (b := b) (fun i => ?_) (fun i o ho => ?_) _ List.pairwise_lt_range'
      · split
        · exact ringsU_asc P u _
        · exact List.Pairwise.nil
      · split at ho
        · obtain ⟨r, rfl⟩ := ringsU_pre P u _ o ho
          exact ⟨r, by simp⟩
        · simp at ho
theorem allR_asc (P : List (Nat × Nat)) : (allR P).Pairwise LexB := by
  refine pw_flat (b := []) (fun i => ringsU_asc P 6 [i]) (fun i o ho => ?_) _ List.pairwise_lt_range
  obtain ⟨r, rfl⟩ := ringsU_pre P 6 [i] o ho
  exact ⟨r, by simp⟩
/-- Lists compared. -/
def cmpL : List Nat → List Nat → Int
  | [], [] => 0
  | [], _ :: _ => -1
  | _ :: _, [] => 1
  | a :: x, b :: y => if a < b then -1 else if b < a then 1 else cmpL x y
theorem cmpL_self : ∀ x, cmpL x x = 0
  | [] => rfl
  | a :: x => by rw [cmpL, if_neg (by omega), if_neg (by omega), cmpL_self x]
theorem cmpL_lex {x y : List Nat} (h : LexB x y) : cmpL y x = 1 ∧ cmpL x y = -1 := by
  obtain ⟨c, i, j, s, t, rfl, rfl, hij⟩ := h
  induction c with
  | nil =>
    refine ⟨?_, ?_⟩
    · rw [List.nil_append, List.nil_append, cmpL, if_neg (by omega), if_pos hij]
    · rw [List.nil_append, List.nil_append, cmpL, if_pos hij]
  | cons a c ih =>
    refine ⟨?_, ?_⟩
    · rw [List.cons_append, List.cons_append, cmpL, if_neg (by omega), if_neg (by omega)]; exact ih.1
    · rw [List.cons_append, List.cons_append, cmpL, if_neg (by omega), if_neg (by omega)]; exact ih.2
theorem short_split : ∀ (l : List (List Nat)) (a : List Nat), ∃ A B, a :: l = A ++ l.foldl shorterD a :: B ∧ (∀ x ∈ A, (l.foldl shorterD a).length < x.length) ∧ ∀ x ∈ B, (l.foldl shorterD a).length ≤ x.length
  | [], a => ⟨[], [], rfl, by simp, by simp⟩
  | b :: l, a => by
    rw [List.foldl_cons]
    by_cases h : b.length < a.length
    · rw [show shorterD a b = b from if_pos h]
      obtain ⟨A, B, e, h1, h2⟩ := short_split l b
      refine ⟨a :: A, B, by rw [e]; rfl, fun x hx => ?_, h2⟩
      rcases List.mem_cons.1 hx with rfl | hx
      · have : (l.foldl shorterD b).length ≤ b.length := fold_short l b
        omega
      · exact h1 x hx
    · rw [show shorterD a b = a from if_neg h]
      obtain ⟨A, B, e, h1, h2⟩ := short_split l a
      cases A with
      | nil =>
        simp only [List.nil_append, List.cons.injEq] at e
        obtain ⟨e1, e2⟩ := e
        refine ⟨[], b :: B, by rw [← e1, ← e2]; rfl, by simp, fun x hx => ?_⟩
        rcases List.mem_cons.1 hx with rfl | hx
        · rw [← e1]; omega
        · exact h2 x hx
      | cons a' A =>
        simp only [List.cons_append, List.cons.injEq] at e
        obtain ⟨rfl, e2⟩ := e
        refine ⟨a :: b :: A, B, congrArg (fun t => a :: b :: t) e2, fun x hx => ?_, h2⟩
        have hlt := h1 a (by simp)
        rcases List.mem_cons.1 hx with rfl | hx
        · exact hlt
        · rcases List.mem_cons.1 hx with rfl | hx
          · omega
          · exact h1 x (by simp [hx])
where
  fold_short : ∀ (l : List (List Nat)) (a : List Nat), (l.foldl shorterD a).length ≤ a.length
    | [], a => Nat.le_refl _
    | b :: l, a => by
      rw [List.foldl_cons]
      refine Nat.le_trans (fold_short l _) ?_
      unfold shorterD
      split <;> omega
theorem minR_least {P : List (Nat × Nat)} {r : List Nat} (h : minR P = some r) : ∀ x ∈ allR P, r.length ≤ x.length ∧ (x.length = r.length → ¬ cmpL x r < 0) := by
  intro x hx
  match hA : allR P with
  | [] => rw [minR_nil hA] at h; cases h
  | a :: l =>
    rw [minR_cons hA] at h
    simp only [Option.some.injEq] at h
    obtain ⟨A, B, e, h1, h2⟩ := short_split l a
    rw [h] at e h1 h2
    have hpw := allR_asc P
    rw [hA, e, List.pairwise_append] at hpw
    rw [hA, e] at hx
    rcases List.mem_append.1 hx with hx | hx
    · have := h1 x hx
      exact ⟨by omega, fun e => by omega⟩
    · rcases List.mem_cons.1 hx with rfl | hx
      · exact ⟨Nat.le_refl _, fun _ => by rw [cmpL_self]; omega⟩
      · refine ⟨h2 x hx, fun _ => ?_⟩
        have := (List.pairwise_cons.1 hpw.2.1).1 x hx
        rw [(cmpL_lex this).1]; omega
end Go.Am.Ring

/-
  What functions of chapter 04 compute, 19: a find is taken out of a list.
-/
set_option linter.unusedVariables false
set_option linter.unusedSimpArgs false
set_option maxRecDepth 10000
namespace Go.Am.Ring
open Go.Am.G

end Go.Am.Ring

/-
  Forms and finds, in plain: where a find is among those that are left.
-/
set_option linter.unusedVariables false
set_option linter.unusedSimpArgs false
namespace Go.Am.Ring

end Go.Am.Ring

/-
  What functions of chapter 04 compute, 20: the program's Strike.
-/
set_option linter.unusedVariables false
set_option linter.unusedSimpArgs false
set_option maxRecDepth 10000
namespace Go.Am.Ring
open Go.Am.G

/-- Finds in memory, in a block that may have more room. -/
def LV2 (m : LMem) (v : LV) (ib : Nat) (l : List (Nat × Nat)) : Prop :=
  ∃ cap L Z w, v = .sl ib 0 l.length cap 2 2 L ∧ m[ib]? = some ⟨Pcs l ++ Z, w⟩ ∧ (Pcs l ++ Z).length = L ∧ l.length ≤ cap
theorem LV2.view {m : LMem} {v : LV} {ib : Nat} {l : List (Nat × Nat)} (h : LV2 m v ib l) : ∃ ex, ∀ k, view (k + 3) m v = some (FN false ex 2 l, [ib]) := by
  obtain ⟨cap, L, Z, w, rfl, hm, hL, hc⟩ := h
  have hp := Pcs_len l
  have hlen : (Pcs l ++ Z).length = l.length * 2 + Z.length := by rw [List.length_append, hp]
  have htk : (Pcs l ++ Z).take (l.length * 2) = Pcs l := by rw [List.take_append_of_le_length (by omega), List.take_of_length_le (by omega)]
  refine ⟨Nat.beq 2 0 && Nat.beq cap l.length, fun k => ?_⟩
  have := view_slc k m ib 0 l.length L 2 cap 2 (Pcs l ++ Z) w hm (by rw [List.drop_zero, htk]; exact Pcs_pures l) hL (by omega) hc
  rw [List.drop_zero, htk] at this
  simp only [FN_eq]
  exact this
theorem LV2.mono {m m' : LMem} {v : LV} {ib : Nat} {l : List (Nat × Nat)} (h : LV2 m v ib l) (e : m'[ib]? = m[ib]?) : LV2 m' v ib l := by
  obtain ⟨cap, L, Z, w, h1, h2, h3, h4⟩ := h
  exact ⟨cap, L, Z, w, h1, by rw [e]; exact h2, h3, h4⟩
theorem LV2.lt {m : LMem} {v : LV} {ib : Nat} {l : List (Nat × Nat)} (h : LV2 m v ib l) : ib < m.length := by
  obtain ⟨cap, L, Z, w, h1, h2, h3, h4⟩ := h
  rcases Nat.lt_or_ge ib m.length with c | c
  · exact c
  · rw [List.getElem?_eq_none c] at h2; cases h2
end Go.Am.Ring


