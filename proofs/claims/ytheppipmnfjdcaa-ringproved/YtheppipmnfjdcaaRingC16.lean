import Derived.Test.YtheppipmnfjdcaaRingC14
/-
  What functions of chapter 04 compute, 16: the reference's rings.
-/
set_option linter.unusedVariables false
set_option linter.unusedSimpArgs false
set_option maxRecDepth 10000
namespace Go.Am.Ring
open Go.Am.G

def st (P : List (Nat × Nat)) (i : Nat) : Nat := (P.getD i (0, 0)).1
def en (P : List (Nat × Nat)) (i : Nat) : Nat := (P.getD i (0, 0)).2
theorem getD_at {α : Type} (P : List α) (i : Nat) (d : α) (h : i < P.length) : P.getD i d = P[i] := by
  rw [List.getD_eq_getElem?_getD, List.getElem?_eq_getElem h]; rfl
theorem pcS (P : List (Nat × Nat)) (i : Nat) (h : i < P.length) : (pcI (P.map castP))[i * 2]? = some (.int .i64 ((st P i : Nat) : Int)) := by
  rw [pcN_0 P i h, st, getD_at P i _ h]
theorem pcE (P : List (Nat × Nat)) (i : Nat) (h : i < P.length) : (pcI (P.map castP))[i * 2 + 1]? = some (.int .i64 ((en P i : Nat) : Int)) := by
  rw [pcN_1 P i h, en, getD_at P i _ h]
theorem pcSE (P : List (Nat × Nat)) (i : Nat) (h : i < P.length) : ((pcI (P.map castP)).drop (i * 2)).take 2 = [.int .i64 ((st P i : Nat) : Int), .int .i64 ((en P i : Nat) : Int)] := by
  rw [pcN_seg P i h, st, en, getD_at P i _ h]
def freshB (P : List (Nat × Nat)) (b : List Nat) (i : Nat) : Bool := b.all fun k => !decide (st P k = st P i)
/-- All rings that begin with some finds. -/
def ringsU (P : List (Nat × Nat)) : Nat → List Nat → List (List Nat)
  | 0, _ => []
  | u + 1, b => if en P (b.getLastD 0) = st P (b.headD 0) then [b] else
      (List.range' (b.headD 0 + 1) (P.length - (b.headD 0 + 1))).flatMap fun i => if st P i = en P (b.getLastD 0) ∧ freshB P b i = true then ringsU P u (b ++ [i]) else []
theorem ringsU_len (P : List (Nat × Nat)) (hP : P.length ≤ 12) : ∀ (u : Nat) (b : List Nat), (ringsU P u b).length ≤ 12 ^ u
  | 0, b => by simp [ringsU]
  | u + 1, b => by
    rw [ringsU]
    split
    · simp
      exact Nat.succ_le_of_lt (Nat.pow_pos (by omega))
    · rw [List.length_flatMap]
      have : ∀ l : List Nat, (l.map fun i => (if st P i = en P (b.getLastD 0) ∧ freshB P b i = true then ringsU P u (b ++ [i]) else []).length).sum ≤ l.length * 12 ^ u := by
        intro l
        induction l with
        | nil => simp
        | cons i l ih =>
          rw [List.map_cons, List.sum_cons, List.length_cons, Nat.add_mul, Nat.one_mul]
          have : (if st P i = en P (b.getLastD 0) ∧ freshB P b i = true then ringsU P u (b ++ [i]) else []).length ≤ 12 ^ u := by
            split
            · exact ringsU_len P hP u _
            · simp
          omega
      have h := this (List.range' (b.headD 0 + 1) (P.length - (b.headD 0 + 1)))
      rw [List.length_range'] at h
      refine Nat.le_trans h ?_
      rw [Nat.pow_succ, Nat.mul_comm]
      exact Nat.mul_le_mul_left _ (by omega)
end Go.Am.Ring

/-
  What functions of chapter 04 compute, 17: the reference's rings, all of them.
-/
set_option linter.unusedVariables false
set_option linter.unusedSimpArgs false
set_option maxRecDepth 10000
namespace Go.Am.Ring
open Go.Am.G

theorem nodup_le : ∀ (s t : List Nat), s.Nodup → (∀ x ∈ s, x ∈ t) → s.length ≤ t.length
  | [], t, _, _ => by simp
  | a :: s, t, hs, ht => by
    have hs := List.nodup_cons.1 hs
    have := nodup_le s (t.erase a) hs.2 (fun x hx => by
      have hxa : x ≠ a := fun e => hs.1 (e ▸ hx)
      exact (List.mem_erase_of_ne hxa).2 (ht x (by simp [hx])))
    have ha := ht a (by simp)
    rw [List.length_erase_of_mem ha] at this
    have hp := List.length_pos_of_mem ha
    simp; omega
/-- Finds that may be the beginning of a ring. -/
structure Beg (n : Nat) (P : List (Nat × Nat)) (b : List Nat) : Prop where
  ne : b ≠ []
  lt : ∀ k ∈ b, k < P.length
  nd : (b.map (st P)).Nodup
theorem st_lt {n : Nat} {P : List (Nat × Nat)} (G : Good n P) {k : Nat} (h : k < P.length) : st P k < n ∧ en P k < n ∧ st P k ≠ en P k := by
  unfold st en
  rw [getD_at P k _ h]
  exact ⟨(G.lt _ (List.getElem_mem h)).1, (G.lt _ (List.getElem_mem h)).2, G.ne _ (List.getElem_mem h)⟩
theorem Beg.len {n : Nat} {P : List (Nat × Nat)} (G : Good n P) {b : List Nat} (B : Beg n P b) : b.length ≤ 6 := by
  have := nodup_le (b.map (st P)) (List.range n) B.nd (fun x hx => by
    obtain ⟨k, hk, rfl⟩ := List.mem_map.1 hx
    exact List.mem_range.2 (st_lt G (B.lt k hk)).1)
  simp at this
  have := G.le6
  omega
theorem Beg.snoc {n : Nat} {P : List (Nat × Nat)} {b : List Nat} (B : Beg n P b) {i : Nat} (hi : i < P.length) (hf : freshB P b i = true) : Beg n P (b ++ [i]) := by
  refine ⟨by simp, ?_, ?_⟩
  · intro k hk
    rcases List.mem_append.1 hk with h | h
    · exact B.lt k h
    · rw [List.mem_singleton.1 h]; exact hi
  · rw [List.map_append, List.nodup_append]
    refine ⟨B.nd, by simp, ?_⟩
    intro x hx y hy
    simp at hy
    subst hy
    obtain ⟨k, hk, rfl⟩ := List.mem_map.1 hx
    unfold freshB at hf
    rw [List.all_eq_true] at hf
    simpa using hf k hk
theorem head_at (b : List Nat) (h : 0 < b.length) : b[0] = b.headD 0 := by
  cases b with
  | nil => simp at h
  | cons a t => rfl
theorem last_el (b : List Nat) (h : b.length - 1 < b.length) : b[b.length - 1] = b.getLastD 0 := by
  rw [List.getLastD_eq_getLast?, List.getLast?_eq_getElem?, List.getElem?_eq_getElem h]; rfl
/-- All rings, ascending. -/
def allR (P : List (Nat × Nat)) : List (List Nat) := (List.range P.length).flatMap fun i => ringsU P 6 [i]
theorem allR_len {n : Nat} {P : List (Nat × Nat)} (G : Good n P) : (allR P).length ≤ 12 * 2985984 := by
  have h12 := G.le12
  unfold allR
  have : ∀ l : List Nat, (l.flatMap fun i => ringsU P 6 [i]).length ≤ l.length * 2985984 := by
    intro l
    induction l with
    | nil => simp
    | cons i l ih =>
      have := ringsU_len P h12 6 [i]
      have h6 : (12 : Nat) ^ 6 = 2985984 := by decide
      rw [h6] at this
      rw [List.flatMap_cons, List.length_append, List.length_cons]
      omega
  have h := this (List.range P.length)
  rw [List.length_range] at h
  exact Nat.le_trans h (Nat.mul_le_mul_right _ h12)
end Go.Am.Ring

/-
  Forms and finds, in plain: there is a ring just if each order contradicts a find.
-/
set_option linter.unusedVariables false
set_option linter.unusedSimpArgs false
namespace Go.Am.Ring

def Chain (P : List (Nat × Nat)) : List Nat → Prop
  | [] => True
  | [_] => True
  | a :: b :: r => en P a = st P b ∧ Chain P (b :: r)
/-- Two chains, one behind the other. -/
theorem chain_append {P : List (Nat × Nat)} : ∀ (a b : List Nat), Chain P (a ++ b) ↔ Chain P a ∧ Chain P b ∧ (a ≠ [] → b ≠ [] → en P (a.getLastD 0) = st P (b.headD 0))
  | [], b => by simp [Chain]
  | [x], [] => by simp [Chain]
  | [x], y :: b => by
    constructor
    · intro h; exact ⟨trivial, h.2, fun _ _ => h.1⟩
    · intro h; exact ⟨h.2.2 (by simp) (by simp), h.2.1⟩
  | x :: y :: a, b => by
    have ih := chain_append (P := P) (y :: a) b
    have e : Chain P (x :: y :: a ++ b) ↔ en P x = st P y ∧ Chain P (y :: a ++ b) := Iff.rfl
    have e2 : Chain P (x :: y :: a) ↔ en P x = st P y ∧ Chain P (y :: a) := Iff.rfl
    have e3 : (x :: y :: a).getLastD 0 = (y :: a).getLastD 0 := by simp [List.getLastD]
    rw [e, e2, ih, e3]
    constructor
    · rintro ⟨h1, h2, h3, h4⟩; exact ⟨⟨h1, h2⟩, h3, fun _ hb => h4 (by simp) hb⟩
    · rintro ⟨⟨h1, h2⟩, h3, h4⟩; exact ⟨h1, h2, h3, fun _ hb => h4 (by simp) hb⟩
structure Cyc (P : List (Nat × Nat)) (b : List Nat) : Prop where
  ne : b ≠ []
  lt : ∀ k ∈ b, k < P.length
  nd : (b.map (st P)).Nodup
  ch : Chain P b
  cl : en P (b.getLastD 0) = st P (b.headD 0)
theorem headD_app (b r : List Nat) (h : b ≠ []) : (b ++ r).headD 0 = b.headD 0 := by
  cases b with
  | nil => exact absurd rfl h
  | cons a t => rfl
theorem lastD_app (b r : List Nat) (h : r ≠ []) : (b ++ r).getLastD 0 = r.getLastD 0 := by
  rw [List.getLastD_eq_getLast?, List.getLastD_eq_getLast?, List.getLast?_append]
  cases hr : r.getLast? with
  | none => exact absurd (List.getLast?_eq_none_iff.1 hr) h
  | some x => rfl
theorem ringsU_mem {n : Nat} {P : List (Nat × Nat)} (G : Good n P) : ∀ (r b : List Nat) (u : Nat), Beg n P b → b.length + u = 7 → Cyc P (b ++ r) → (∀ k ∈ r, b.headD 0 < k) → b ++ r ∈ ringsU P u b
  | r, b, 0, B, hu, _, _ => by have := B.len G; omega
  | [], b, u + 1, B, hu, C, _ => by
    rw [List.append_nil] at C ⊢
    rw [ringsU, if_pos C.cl]; simp
  | i :: r, b, u + 1, B, hu, C, hm => by
    have hch := (chain_append b (i :: r)).1 C.ch
    have hlast : en P (b.getLastD 0) = st P i := hch.2.2 B.ne (by simp)
    have hnd := C.nd
    rw [List.map_append, List.nodup_append] at hnd
    have hne : ∀ k ∈ b, st P k ≠ st P i := fun k hk => hnd.2.2 _ (List.mem_map.2 ⟨k, hk, rfl⟩) _ (List.mem_map.2 ⟨i, by simp, rfl⟩)
    have hil : i < P.length := C.lt i (by simp)
    have hnc : ¬ en P (b.getLastD 0) = st P (b.headD 0) := by
      intro c
      rw [hlast] at c
      refine hne (b.headD 0) ?_ c.symm
      cases hb : b with
      | nil => exact absurd hb B.ne
      | cons a t => simp
    have hfr : freshB P b i = true := by
      unfold freshB
      rw [List.all_eq_true]
      intro k hk
      simp [hne k hk]
    have hih := hm i (by simp)
    rw [ringsU, if_neg hnc, List.mem_flatMap]
    refine ⟨i, List.mem_range'_1.2 ⟨by omega, by omega⟩, ?_⟩
    rw [if_pos ⟨hlast.symm, hfr⟩]
    have := ringsU_mem G r (b ++ [i]) u (B.snoc hil hfr) (by simp; omega) (by rw [List.append_assoc]; exact C) (fun k hk => by
      rw [headD_app b [i] B.ne]
      exact hm k (by simp [hk]))
    rw [List.append_assoc] at this
    exact this
theorem ringsU_cyc {n : Nat} {P : List (Nat × Nat)} (G : Good n P) : ∀ (u : Nat) (b : List Nat), Beg n P b → Chain P b → ∀ o ∈ ringsU P u b, Cyc P o ∧ ∃ r, o = b ++ r ∧ ∀ k ∈ r, b.headD 0 < k
  | 0, b, _, _, o, ho => by simp [ringsU] at ho
  | u + 1, b, B, hch, o, ho => by
    rw [ringsU] at ho
    split at ho
    · rename_i h
      simp at ho
      subst ho
      exact ⟨⟨B.ne, B.lt, B.nd, hch, h⟩, [], by simp, by simp⟩
    · rw [List.mem_flatMap] at ho
      obtain ⟨i, hi, ho⟩ := ho
      rw [List.mem_range'_1] at hi
      split at ho
      · rename_i h
        have hil : i < P.length := by omega
        have hch2 : Chain P (b ++ [i]) := (chain_append b [i]).2 ⟨hch, trivial, fun _ _ => h.1.symm⟩
        obtain ⟨h1, r, h2, h3⟩ := ringsU_cyc G u (b ++ [i]) (B.snoc hil h.2) hch2 o ho
        rw [headD_app b [i] B.ne] at h3
        refine ⟨h1, i :: r, by rw [h2]; simp, ?_⟩
        intro k hk
        rcases List.mem_cons.1 hk with rfl | hk
        · omega
        · exact h3 k hk
      · simp at ho
theorem beg_one {n : Nat} {P : List (Nat × Nat)} {i : Nat} (hi : i < P.length) : Beg n P [i] := ⟨by simp, by simpa using hi, by simp⟩
/-- All rings are cycles told from their smallest find on, and each of these is there. -/
theorem allR_mem {n : Nat} {P : List (Nat × Nat)} (G : Good n P) (o : List Nat) : o ∈ allR P ↔ Cyc P o ∧ ∀ k ∈ o.tail, o.headD 0 < k := by
  unfold allR
  rw [List.mem_flatMap]
  constructor
  · rintro ⟨i, hi, ho⟩
    obtain ⟨h1, r, rfl, h3⟩ := ringsU_cyc G 6 [i] (beg_one (List.mem_range.1 hi)) trivial o ho
    exact ⟨h1, h3⟩
  · rintro ⟨C, h⟩
    cases o with
    | nil => exact absurd rfl C.ne
    | cons i r =>
      have hi := C.lt i (by simp)
      exact ⟨i, List.mem_range.2 hi, ringsU_mem G r [i] 6 (beg_one hi) rfl C h⟩
/-- A cycle may be told from its smallest find on. -/
theorem cyc_min {n : Nat} {P : List (Nat × Nat)} (G : Good n P) {c : List Nat} (C : Cyc P c) : ∃ o, o ∈ allR P := by
  obtain ⟨m, hm, hmin⟩ : ∃ m ∈ c, ∀ k ∈ c, m ≤ k := by
    have : ∀ l : List Nat, l ≠ [] → ∃ m ∈ l, ∀ k ∈ l, m ≤ k := by
      intro l
      induction l with
      | nil => intro h; exact absurd rfl h
      | cons a l ih =>
        intro _
        by_cases hl : l = []
        · subst hl; exact ⟨a, by simp, by simp⟩
        · obtain ⟨m, h1, h2⟩ := ih hl
          by_cases c : a ≤ m
          · exact ⟨a, by simp, fun k hk => by
              rcases List.mem_cons.1 hk with rfl | hk
              · omega
              · have := h2 k hk; omega⟩
          · exact ⟨m, by simp [h1], fun k hk => by
              rcases List.mem_cons.1 hk with rfl | hk
              · omega
              · exact h2 k hk⟩
    exact this c C.ne
  obtain ⟨l1, l2, rfl⟩ := List.append_of_mem hm
  have hch := (chain_append l1 (m :: l2)).1 C.ch
  have hcl := C.cl
  rw [lastD_app l1 (m :: l2) (by simp)] at hcl
  have hnd := C.nd
  have hperm : ((m :: l2 ++ l1).map (st P)).Perm ((l1 ++ m :: l2).map (st P)) := (List.perm_append_comm).map _
  refine ⟨m :: l2 ++ l1, (allR_mem G _).2 ⟨⟨by simp, ?_, hperm.nodup_iff.2 hnd, ?_, ?_⟩, ?_⟩⟩
  · intro k hk
    exact C.lt k ((List.perm_append_comm).mem_iff.1 hk)
  · refine (chain_append (m :: l2) l1).2 ⟨hch.2.1, hch.1, fun _ hl => ?_⟩
    rw [hcl, headD_app l1 _ hl]
  · by_cases hl : l1 = []
    · subst hl; simpa using hcl
    · rw [lastD_app _ _ hl]
      exact hch.2.2 hl (by simp)
  · intro k hk
    have hk' : k ∈ l2 ++ l1 := hk
    have h1 := hmin k (by
      rcases List.mem_append.1 hk' with h | h
      · simp [h]
      · simp [h])
    have h2 : k ≠ m := by
      intro e
      subst e
      have := hperm.nodup_iff.2 hnd
      rw [show k :: l2 ++ l1 = k :: (l2 ++ l1) from rfl, List.map_cons, List.nodup_cons] at this
      exact this.1 (List.mem_map.2 ⟨k, hk', rfl⟩)
    show m < k
    omega
end Go.Am.Ring

/-
  Forms and finds, in plain: the most rings without a common find: one by one, each if so many fewer can still be had, is what trying with and without the first one gives.
-/
set_option linter.unusedVariables false
set_option linter.unusedSimpArgs false
namespace Go.Am.Ring

def Dis (a b : List Nat) : Prop := ∀ x ∈ a, x ∉ b
instance (a b : List Nat) : Decidable (Dis a b) := inferInstanceAs (Decidable (∀ x ∈ a, x ∉ b))
theorem Dis.symm {a b : List Nat} (h : Dis a b) : Dis b a := fun x hx hy => h x hy hx
def disT (r : List Nat) (t : List (List Nat)) : List (List Nat) := t.filter fun q => decide (Dis r q)
/-- With the first one, and without it. -/
def ap (l : List (List Nat)) : List (List Nat) := match l with
  | [] => []
  | r :: t =>
    if 1 + (disT r t).length = (r :: t).length then r :: ap (disT r t)
    else if (r :: ap (disT r t)).length < (ap t).length then ap t else r :: ap (disT r t)
termination_by l.length
decreasing_by
  all_goals
    have := List.length_filter_le (fun q => decide (Dis r q)) t
    first
      | (simp only [disT, List.length_cons]; omega)
      | (simp only [List.length_cons]; omega)
section
variable {R : List (List Nat)} (hne : ∀ q ∈ R, q ≠ [])
include hne
end
end Go.Am.Ring

/-
  Forms and finds, in plain: no ring just if some order contradicts nothing.
-/
set_option linter.unusedVariables false
set_option linter.unusedSimpArgs false
namespace Go.Am.Ring

theorem contr_zero {P : List (Nat × Nat)} {o : List Nat} (h : contr P o = 0) {k : Nat} (hk : k < P.length) : ¬ pos o (en P k) < pos o (st P k) := by
  unfold contr at h
  rw [List.countP_eq_zero] at h
  have := h _ (List.getElem_mem hk)
  unfold en st
  rw [getD_at P k _ hk]
  simpa using this
/-- Along a chain forms come later and later. -/
theorem chain_pos {n : Nat} {P : List (Nat × Nat)} (G : Good n P) {o : List Nat} (ho : o ∈ ords n) (h0 : contr P o = 0) : ∀ (b : List Nat), b ≠ [] → (∀ k ∈ b, k < P.length) → Chain P b → pos o (st P (b.headD 0)) < pos o (en P (b.getLastD 0))
  | [], h, _, _ => absurd rfl h
  | [k], _, hl, _ => by
    have hk := hl k (by simp)
    have h1 := contr_zero h0 hk
    have h2 := st_lt G hk
    have h3 := pos_inj o (st P k) (en P k) ((ords_ok ho).2.2.2 _ h2.1) h2.2.2
    show pos o (st P k) < pos o (en P k)
    omega
  | a :: b :: r, _, hl, hc => by
    have ih := chain_pos G ho h0 (b :: r) (by simp) (fun k hk => hl k (by simp [hk])) hc.2
    have hk := hl a (by simp)
    have h1 := contr_zero h0 hk
    have h2 := st_lt G hk
    have h3 := pos_inj o (st P a) (en P a) ((ords_ok ho).2.2.2 _ h2.1) h2.2.2
    have e3 : (a :: b :: r).getLastD 0 = (b :: r).getLastD 0 := by simp [List.getLastD]
    rw [e3]
    show pos o (st P a) < _
    have h4 : pos o (st P b) < pos o (en P ((b :: r).getLastD 0)) := ih
    rw [← hc.1] at h4
    omega
theorem ring_contr {n : Nat} {P : List (Nat × Nat)} (G : Good n P) {c : List Nat} (C : Cyc P c) {o : List Nat} (ho : o ∈ ords n) : contr P o ≠ 0 := by
  intro h0
  have := chain_pos G ho h0 c C.ne C.lt C.ch
  rw [C.cl] at this
  omega
/-- Where each form left has a find from another one left, there is a cycle. -/
theorem back_cyc {n : Nat} {P : List (Nat × Nat)} (G : Good n P) (done : Nat) (hno : ∀ f, f < n → done.testBit f = false → ∃ i, i < P.length ∧ en P i = f ∧ done.testBit (st P i) = false) : ∀ (u : Nat) (b : List Nat), Beg n P b → Chain P b → done.testBit (st P (b.headD 0)) = false → b.length + u = 7 → ∃ c, Cyc P c
  | 0, b, B, _, _, hu => by have := B.len G; omega
  | u + 1, b, B, hch, hd, hu => by
    have hhd : b.headD 0 ∈ b := by
      cases hb : b with
      | nil => exact absurd hb B.ne
      | cons a t => simp
    obtain ⟨i, hi, he, hs⟩ := hno _ (st_lt G (B.lt _ hhd)).1 hd
    by_cases c : st P i ∈ b.map (st P)
    · obtain ⟨k, hk, hks⟩ := List.mem_map.1 c
      obtain ⟨l1, l2, rfl⟩ := List.append_of_mem hk
      have hc1 := (chain_append l1 (k :: l2)).1 hch
      by_cases hl : l1 = []
      · subst hl
        have e : en P i = st P k := he
        exact absurd (hks ▸ e).symm (st_lt G hi).2.2
      · have hnd := B.nd
        rw [List.map_append, List.nodup_append] at hnd
        refine ⟨i :: l1, by simp, ?_, ?_, ?_, ?_⟩
        · intro x hx
          rcases List.mem_cons.1 hx with rfl | hx
          · exact hi
          · exact B.lt x (by simp [hx])
        · rw [List.map_cons, List.nodup_cons]
          refine ⟨fun hx => ?_, hnd.1⟩
          exact hnd.2.2 _ hx _ (List.mem_map.2 ⟨k, by simp, rfl⟩) hks.symm
        · refine (chain_append [i] l1).2 ⟨trivial, hc1.1, fun _ _ => ?_⟩
          rw [headD_app l1 _ hl] at he
          exact he
        · have e3 : (i :: l1).getLastD 0 = l1.getLastD 0 := lastD_app [i] l1 hl
          rw [e3]
          show en P (l1.getLastD 0) = st P i
          rw [← hks]
          exact hc1.2.2 hl (by simp)
    · have B' : Beg n P (i :: b) := by
        refine ⟨by simp, ?_, ?_⟩
        · intro x hx
          rcases List.mem_cons.1 hx with rfl | hx
          · exact hi
          · exact B.lt x hx
        · rw [List.map_cons, List.nodup_cons]
          exact ⟨c, B.nd⟩
      have hch' : Chain P (i :: b) := (chain_append [i] b).2 ⟨trivial, hch, fun _ _ => he⟩
      exact back_cyc G done hno u (i :: b) B' hch' hs (by simp; omega)
/-- Without a cycle there is an order that contradicts nothing. -/
theorem topo {n : Nat} {P : List (Nat × Nat)} (G : Good n P) (hno : ∀ c, ¬ Cyc P c) : ∀ (u done : Nat), leftN n done = u → (∀ p ∈ P, done.testBit p.2 = true → done.testBit p.1 = true) → ∃ o ∈ compsU anyM n u done, pathC P done o = 0
  | 0, done, _, _ => ⟨[], by simp [compsU], rfl⟩
  | u + 1, done, hu, hinv => by
    -- a form that nothing left comes ahead of
    have hex : ∃ f, f < n ∧ done.testBit f = false ∧ ∀ p ∈ P, p.2 = f → done.testBit p.1 = true := by
      apply Classical.byContradiction
      intro hc
      have hback : ∀ f, f < n → done.testBit f = false → ∃ i, i < P.length ∧ en P i = f ∧ done.testBit (st P i) = false := by
        intro f hf hb
        apply Classical.byContradiction
        intro hn
        refine hc ⟨f, hf, hb, fun p hp hpf => ?_⟩
        obtain ⟨i, hi, rfl⟩ := List.getElem_of_mem hp
        cases hbs : done.testBit P[i].1
        · exact absurd ⟨i, hi, by unfold en; rw [getD_at P i _ hi]; exact hpf, by unfold st; rw [getD_at P i _ hi]; exact hbs⟩ hn
        · rfl
      have hne : leftN n done ≠ 0 := by omega
      unfold leftN at hne
      rw [Ne, List.countP_eq_zero] at hne
      have ⟨f, hf⟩ : ∃ f, f < n ∧ done.testBit f = false := by
        apply Classical.byContradiction
        intro c
        apply hne
        intro x hx
        cases hb : done.testBit x
        · exact absurd ⟨x, List.mem_range.1 hx, hb⟩ c
        · simp
      obtain ⟨i, hi, he, hs⟩ := hback f hf.1 hf.2
      obtain ⟨c, C⟩ := back_cyc G done hback 6 [i] (beg_one hi) trivial hs rfl
      exact hno c C
    obtain ⟨f, hf, hb, hp⟩ := hex
    have hl := leftN_next done f hb n hf
    obtain ⟨o, ho, hpc⟩ := topo G hno u (done ||| 2 ^ f) (by omega) (fun p hpm h => by
      rw [or_bit] at h ⊢
      rcases Bool.or_eq_true _ _ |>.mp h with h | h
      · rw [hinv p hpm h]; rfl
      · have : p.2 = f := by simpa using (of_decide_eq_true h).symm
        rw [hp p hpm this]; rfl)
    refine ⟨f :: o, ?_, ?_⟩
    · rw [compsU, List.mem_flatMap]
      refine ⟨f, List.mem_range.2 hf, ?_⟩
      rw [if_neg (by simp [hb, anyM])]
      exact List.mem_map.2 ⟨o, ho, rfl⟩
    · rw [pathC, hpc, Nat.add_zero]
      unfold costN
      rw [List.countP_eq_zero]
      intro p hpm hc
      simp only [Bool.and_eq_true, beq_iff_eq] at hc
      have := hinv p hpm hc.2
      rw [hc.1, hb] at this
      cases this
abbrev FW (n : Nat) (P : List (Nat × Nat)) : Nat := (fwD anyM P n 0).1
theorem FW_le {n : Nat} {P : List (Nat × Nat)} (G : Good n P) {o : List Nat} (ho : o ∈ ords n) : FW n P ≤ contr P o := (fw_min anyM G).le _ (List.mem_map.2 ⟨o, ho, rfl⟩)
theorem FW_at {n : Nat} {P : List (Nat × Nat)} (G : Good n P) : ∃ o ∈ ords n, contr P o = FW n P := by
  have hne := ords_ne n n 0 (leftN_none n)
  obtain ⟨o, ho, he⟩ := List.mem_map.1 ((fw_min anyM G).mem (by simpa using hne))
  exact ⟨o, ho, he⟩
/-- There is no ring just if an order contradicts nothing. -/
theorem no_ring {n : Nat} {P : List (Nat × Nat)} (G : Good n P) : allR P = [] ↔ FW n P = 0 := by
  constructor
  · intro h
    have hno : ∀ c, ¬ Cyc P c := fun c C => by
      obtain ⟨o, ho⟩ := cyc_min G C
      rw [h] at ho; simp at ho
    obtain ⟨o, ho, hpc⟩ := topo G hno n 0 (leftN_none n) (fun p _ h => by simp at h)
    rw [path_contr anyM (fun p hp => (G.lt p hp).2) ho] at hpc
    have := FW_le G ho
    omega
  · intro h
    obtain ⟨o, ho, hc⟩ := FW_at G
    rw [h] at hc
    cases hr : allR P with
    | nil => rfl
    | cons c r =>
      have := ((allR_mem G c).1 (by rw [hr]; simp)).1
      exact absurd hc (ring_contr G this ho)
end Go.Am.Ring


