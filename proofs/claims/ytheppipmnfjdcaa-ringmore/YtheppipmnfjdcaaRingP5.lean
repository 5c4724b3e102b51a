import Derived.Test.YtheppipmnfjdcaaRingC16
import Derived.Test.YtheppipmnfjdcaaRingC18
/-
  Forms and finds, in plain: there is a ring just if each order contradicts a find.
-/
set_option linter.unusedVariables false
set_option linter.unusedSimpArgs false
namespace Go.Am.Ring

def Chain (P : List (Nat × Nat)) : List Nat → Prop
  | [] => True
  | [_] => True
  | a :: b :: r => en P a = st P b ∧ Chain P (b :: r)
/-- Two chains, one behind the other. -/
theorem chain_append {P : List (Nat × Nat)} : ∀ (a b : List Nat), Chain P (a ++ b) ↔ Chain P a ∧ Chain P b ∧ (a ≠ [] → b ≠ [] → en P (a.getLastD 0) = st P (b.headD 0))
  | [], b => by simp [Chain]
  | [x], [] => by simp [Chain]
  | [x], y :: b => by
    constructor
    · intro h; exact ⟨trivial, h.2, fun _ _ => h.1⟩
    · intro h; exact ⟨h.2.2 (by simp) (by simp), h.2.1⟩
  | x :: y :: a, b => by
    have ih := chain_append (P := P) (y :: a) b
    have e : Chain P (x :: y :: a ++ b) ↔ en P x = st P y ∧ Chain P (y :: a ++ b) := Iff.rfl
    have e2 : Chain P (x :: y :: a) ↔ en P x = st P y ∧ Chain P (y :: a) := Iff.rfl
    have e3 : (x :: y :: a).getLastD 0 = (y :: a).getLastD 0 := by simp [List.getLastD]
    rw [e, e2, ih, e3]
    constructor
    · rintro ⟨h1, h2, h3, h4⟩; exact ⟨⟨h1, h2⟩, h3, fun _ hb => h4 (by simp) hb⟩
    · rintro ⟨⟨h1, h2⟩, h3, h4⟩; exact ⟨h1, h2, h3, fun _ hb => h4 (by simp) hb⟩
structure Cyc (P : List (Nat × Nat)) (b : List Nat) : Prop where
  ne : b ≠ []
  lt : ∀ k ∈ b, k < P.length
  nd : (b.map (st P)).Nodup
  ch : Chain P b
  cl : en P (b.getLastD 0) = st P (b.headD 0)
theorem headD_app (b r : List Nat) (h : b ≠ []) : (b ++ r).headD 0 = b.headD 0 := by
  cases b with
  | nil => exact absurd rfl h
  | cons a t => rfl
theorem lastD_app (b r : List Nat) (h : r ≠ []) : (b ++ r).getLastD 0 = r.getLastD 0 := by
  rw [List.getLastD_eq_getLast?, List.getLastD_eq_getLast?, List.getLast?_append]
  cases hr : r.getLast? with
  | none => exact absurd (List.getLast?_eq_none_iff.1 hr) h
  | some x => rfl
theorem ringsU_mem {n : Nat} {P : List (Nat × Nat)} (G : Good n P) : ∀ (r b : List Nat) (u : Nat), Beg n P b → b.length + u = 7 → Cyc P (b ++ r) → (∀ k ∈ r, b.headD 0 < k) → b ++ r ∈ ringsU P u b
  | r, b, 0, B, hu, _, _ => by have := B.len G; omega
  | [], b, u + 1, B, hu, C, _ => by
    rw [List.append_nil] at C ⊢
    rw [ringsU, if_pos C.cl]; simp
  | i :: r, b, u + 1, B, hu, C, hm => by
    have hch := (chain_append b (i :: r)).1 C.ch
    have hlast : en P (b.getLastD 0) = st P i := hch.2.2 B.ne (by simp)
    have hnd := C.nd
    rw [List.map_append, List.nodup_append] at hnd
    have hne : ∀ k ∈ b, st P k ≠ st P i := fun k hk => hnd.2.2 _ (List.mem_map.2 ⟨k, hk, rfl⟩) _ (List.mem_map.2 ⟨i, by simp, rfl⟩)
    have hil : i < P.length := C.lt i (by simp)
    have hnc : ¬ en P (b.getLastD 0) = st P (b.headD 0) := by
      intro c
      rw [hlast] at c
      refine hne (b.headD 0) ?_ c.symm
      cases hb : b with
      | nil => exact absurd hb B.ne
      | cons a t => simp
    have hfr : freshB P b i = true := by
      unfold freshB
      rw [List.all_eq_true]
      intro k hk
      simp [hne k hk]
    have hih := hm i (by simp)
    rw [ringsU, if_neg hnc, List.mem_flatMap]
    refine ⟨i, List.mem_range'_1.2 ⟨by omega, by omega⟩, ?_⟩
    rw [if_pos ⟨hlast.symm, hfr⟩]
    have := ringsU_mem G r (b ++ [i]) u (B.snoc hil hfr) (by simp; omega) (by rw [List.append_assoc]; exact C) (fun k hk => by
      rw [headD_app b [i] B.ne]
      exact hm k (by simp [hk]))
    rw [List.append_assoc] at this
    exact this
theorem ringsU_cyc {n : Nat} {P : List (Nat × Nat)} (G : Good n P) : ∀ (u : Nat) (b : List Nat), Beg n P b → Chain P b → ∀ o ∈ ringsU P u b, Cyc P o ∧ ∃ r, o = b ++ r ∧ ∀ k ∈ r, b.headD 0 < k
  | 0, b, _, _, o, ho => by simp [ringsU] at ho
  | u + 1, b, B, hch, o, ho => by
    rw [ringsU] at ho
    split at ho
    · rename_i h
      simp at ho
      subst ho
      exact ⟨⟨B.ne, B.lt, B.nd, hch, h⟩, [], by simp, by simp⟩
    · rw [List.mem_flatMap] at ho
      obtain ⟨i, hi, ho⟩ := ho
      rw [List.mem_range'_1] at hi
      split at ho
      · rename_i h
        have hil : i < P.length := by omega
        have hch2 : Chain P (b ++ [i]) := (chain_append b [i]).2 ⟨hch, trivial, fun _ _ => h.1.symm⟩
        obtain ⟨h1, r, h2, h3⟩ := ringsU_cyc G u (b ++ [i]) (B.snoc hil h.2) hch2 o ho
        rw [headD_app b [i] B.ne] at h3
        refine ⟨h1, i :: r, by rw [h2]; simp, ?_⟩
        intro k hk
        rcases List.mem_cons.1 hk with rfl | hk
        · omega
        · exact h3 k hk
      · simp at ho
theorem beg_one {n : Nat} {P : List (Nat × Nat)} {i : Nat} (hi : i < P.length) : Beg n P [i] := ⟨by simp, by simpa using hi, by simp⟩
/-- All rings are cycles told from their smallest find on, and each of these is there. -/
theorem allR_mem {n : Nat} {P : List (Nat × Nat)} (G : Good n P) (o : List Nat) : o ∈ allR P ↔ Cyc P o ∧ ∀ k ∈ o.tail, o.headD 0 < k := by
  unfold allR
  rw [List.mem_flatMap]
  constructor
  · rintro ⟨i, hi, ho⟩
    obtain ⟨h1, r, rfl, h3⟩ := ringsU_cyc G 6 [i] (beg_one (List.mem_range.1 hi)) trivial o ho
    exact ⟨h1, h3⟩
  · rintro ⟨C, h⟩
    cases o with
    | nil => exact absurd rfl C.ne
    | cons i r =>
      have hi := C.lt i (by simp)
      exact ⟨i, List.mem_range.2 hi, ringsU_mem G r [i] 6 (beg_one hi) rfl C h⟩
/-- A cycle may be told from its smallest find on. -/
theorem cyc_min {n : Nat} {P : List (Nat × Nat)} (G : Good n P) {c : List Nat} (C : Cyc P c) : ∃ o, o ∈ allR P := by
  obtain ⟨m, hm, hmin⟩ : ∃ m ∈ c, ∀ k ∈ c, m ≤ k := by
    have : ∀ l : List Nat, l ≠ [] → ∃ m ∈ l, ∀ k ∈ l, m ≤ k := by
      intro l
      induction l with
      | nil => intro h; exact absurd rfl h
      | cons a l ih =>
        intro _
        by_cases hl : l = []
        · subst hl; exact ⟨a, by simp, by simp⟩
        · obtain ⟨m, h1, h2⟩ := ih hl
          by_cases c : a ≤ m
          · exact ⟨a, by simp, fun k hk => by
              rcases List.mem_cons.1 hk with rfl | hk
              · omega
              · have := h2 k hk; omega⟩
          · exact ⟨m, by simp [h1], fun k hk => by
              rcases List.mem_cons.1 hk with rfl | hk
              · omega
              · exact h2 k hk⟩
    exact this c C.ne
  obtain ⟨l1, l2, rfl⟩ := List.append_of_mem hm
  have hch := (chain_append l1 (m :: l2)).1 C.ch
  have hcl := C.cl
  rw [lastD_app l1 (m :: l2) (by simp)] at hcl
  have hnd := C.nd
  have hperm : ((m :: l2 ++ l1).map (st P)).Perm ((l1 ++ m :: l2).map (st P)) := (List.perm_append_comm).map _
  refine ⟨m :: l2 ++ l1, (allR_mem G _).2 ⟨⟨by simp, ?_, hperm.nodup_iff.2 hnd, ?_, ?_⟩, ?_⟩⟩
  · intro k hk
    exact C.lt k ((List.perm_append_comm).mem_iff.1 hk)
  · refine (chain_append (m :: l2) l1).2 ⟨hch.2.1, hch.1, fun _ hl => ?_⟩
    rw [hcl, headD_app l1 _ hl]
  · by_cases hl : l1 = []
    · subst hl; simpa using hcl
    · rw [lastD_app _ _ hl]
      exact hch.2.2 hl (by simp)
  · intro k hk
    have hk' : k ∈ l2 ++ l1 := hk
    have h1 := hmin k (by
      rcases List.mem_append.1 hk' with h | h
      · simp [h]
      · simp [h])
    have h2 : k ≠ m := by
      intro e
      subst e
      have := hperm.nodup_iff.2 hnd
      rw [show k :: l2 ++ l1 = k :: (l2 ++ l1) from rfl, List.map_cons, List.nodup_cons] at this
      exact this.1 (List.mem_map.2 ⟨k, hk', rfl⟩)
    show m < k
    omega
end Go.Am.Ring

/-
  Forms and finds, in plain: no ring just if some order contradicts nothing.
-/
set_option linter.unusedVariables false
set_option linter.unusedSimpArgs false
namespace Go.Am.Ring

theorem contr_zero {P : List (Nat × Nat)} {o : List Nat} (h : contr P o = 0) {k : Nat} (hk : k < P.length) : ¬ pos o (en P k) < pos o (st P k) := by
  unfold contr at h
  rw [List.countP_eq_zero] at h
  have := h _ (List.getElem_mem hk)
  unfold en st
  rw [getD_at P k _ hk]
  simpa using this
/-- Along a chain forms come later and later. -/
theorem chain_pos {n : Nat} {P : List (Nat × Nat)} (G : Good n P) {o : List Nat} (ho : o ∈ ords n) (h0 : contr P o = 0) : ∀ (b : List Nat), b ≠ [] → (∀ k ∈ b, k < P.length) → Chain P b → pos o (st P (b.headD 0)) < pos o (en P (b.getLastD 0))
  | [], h, _, _ => absurd rfl h
  | [k], _, hl, _ => by
    have hk := hl k (by simp)
    have h1 := contr_zero h0 hk
    have h2 := st_lt G hk
    have h3 := pos_inj o (st P k) (en P k) ((ords_ok ho).2.2.2 _ h2.1) h2.2.2
    show pos o (st P k) < pos o (en P k)
    omega
  | a :: b :: r, _, hl, hc => by
    have ih := chain_pos G ho h0 (b :: r) (by simp) (fun k hk => hl k (by simp [hk])) hc.2
    have hk := hl a (by simp)
    have h1 := contr_zero h0 hk
    have h2 := st_lt G hk
    have h3 := pos_inj o (st P a) (en P a) ((ords_ok ho).2.2.2 _ h2.1) h2.2.2
    have e3 : (a :: b :: r).getLastD 0 = (b :: r).getLastD 0 := by simp [List.getLastD]
    rw [e3]
    show pos o (st P a) < _
    have h4 : pos o (st P b) < pos o (en P ((b :: r).getLastD 0)) := ih
    rw [← hc.1] at h4
    omega
theorem ring_contr {n : Nat} {P : List (Nat × Nat)} (G : Good n P) {c : List Nat} (C : Cyc P c) {o : List Nat} (ho : o ∈ ords n) : contr P o ≠ 0 := by
  intro h0
  have := chain_pos G ho h0 c C.ne C.lt C.ch
  rw [C.cl] at this
  omega
/-- Where each form left has a find from another one left, there is a cycle. -/
theorem back_cyc {n : Nat} {P : List (Nat × Nat)} (G : Good n P) (done : Nat) (hno : ∀ f, f < n → done.testBit f = false → ∃ i, i < P.length ∧ en P i = f ∧ done.testBit (st P i) = false) : ∀ (u : Nat) (b : List Nat), Beg n P b → Chain P b → done.testBit (st P (b.headD 0)) = false → b.length + u = 7 → ∃ c, Cyc P c
  | 0, b, B, _, _, hu => by have := B.len G; omega
  | u + 1, b, B, hch, hd, hu => by
    have hhd : b.headD 0 ∈ b := by
      cases hb : b with
      | nil => exact absurd hb B.ne
      | cons a t => simp
    obtain ⟨i, hi, he, hs⟩ := hno _ (st_lt G (B.lt _ hhd)).1 hd
    by_cases c : st P i ∈ b.map (st P)
    · obtain ⟨k, hk, hks⟩ := List.mem_map.1 c
      obtain ⟨l1, l2, rfl⟩ := List.append_of_mem hk
      have hc1 := (chain_append l1 (k :: l2)).1 hch
      by_cases hl : l1 = []
      · subst hl
        have e : en P i = st P k := he
        exact absurd (hks ▸ e).symm (st_lt G hi).2.2
      · have hnd := B.nd
        rw [List.map_append, List.nodup_append] at hnd
        refine ⟨i :: l1, by simp, ?_, ?_, ?_, ?_⟩
        · intro x hx
          rcases List.mem_cons.1 hx with rfl | hx
          · exact hi
          · exact B.lt x (by simp [hx])
        · rw [List.map_cons, List.nodup_cons]
          refine ⟨fun hx => ?_, hnd.1⟩
          exact hnd.2.2 _ hx _ (List.mem_map.2 ⟨k, by simp, rfl⟩) hks.symm
        · refine (chain_append [i] l1).2 ⟨trivial, hc1.1, fun _ _ => ?_⟩
          rw [headD_app l1 _ hl] at he
          exact he
        · have e3 : (i :: l1).getLastD 0 = l1.getLastD 0 := lastD_app [i] l1 hl
          rw [e3]
          show en P (l1.getLastD 0) = st P i
          rw [← hks]
          exact hc1.2.2 hl (by simp)
    · have B' : Beg n P (i :: b) := by
        refine ⟨by simp, ?_, ?_⟩
        · intro x hx
          rcases List.mem_cons.1 hx with rfl | hx
          · exact hi
          · exact B.lt x hx
        · rw [List.map_cons, List.nodup_cons]
          exact ⟨c, B.nd⟩
      have hch' : Chain P (i :: b) := (chain_append [i] b).2 ⟨trivial, hch, fun _ _ => he⟩
      exact back_cyc G done hno u (i :: b) B' hch' hs (by simp; omega)
/-- Without a cycle there is an order that contradicts nothing. -/
theorem topo {n : Nat} {P : List (Nat × Nat)} (G : Good n P) (hno : ∀ c, ¬ Cyc P c) : ∀ (u done : Nat), leftN n done = u → (∀ p ∈ P, done.testBit p.2 = true → done.testBit p.1 = true) → ∃ o ∈ compsU anyM n u done, pathC P done o = 0
  | 0, done, _, _ => ⟨[], by simp [compsU], rfl⟩
  | u + 1, done, hu, hinv => by
    -- a form that nothing left comes ahead of
    have hex : ∃ f, f < n ∧ done.testBit f = false ∧ ∀ p ∈ P, p.2 = f → done.testBit p.1 = true := by
      apply Classical.byContradiction
      intro hc
      have hback : ∀ f, f < n → done.testBit f = false → ∃ i, i < P.length ∧ en P i = f ∧ done.testBit (st P i) = false := by
        intro f hf hb
        apply Classical.byContradiction
        intro hn
        refine hc ⟨f, hf, hb, fun p hp hpf => ?_⟩
        obtain ⟨i, hi, rfl⟩ := List.getElem_of_mem hp
        cases hbs : done.testBit P[i].1
        · exact absurd ⟨i, hi, by unfold en; rw [getD_at P i _ hi]; exact hpf, by unfold st; rw [getD_at P i _ hi]; exact hbs⟩ hn
        · rfl
      have hne : leftN n done ≠ 0 := by omega
      unfold leftN at hne
      rw [Ne, List.countP_eq_zero] at hne
      have ⟨f, hf⟩ : ∃ f, f < n ∧ done.testBit f = false := by
        apply Classical.byContradiction
        intro c
        apply hne
        intro x hx
        cases hb : done.testBit x
        · exact absurd ⟨x, List.mem_range.1 hx, hb⟩ c
        · simp
      obtain ⟨i, hi, he, hs⟩ := hback f hf.1 hf.2
      obtain ⟨c, C⟩ := back_cyc G done hback 6 [i] (beg_one hi) trivial hs rfl
      exact hno c C
    obtain ⟨f, hf, hb, hp⟩ := hex
    have hl := leftN_next done f hb n hf
    obtain ⟨o, ho, hpc⟩ := topo G hno u (done ||| 2 ^ f) (by omega) (fun p hpm h => by
      rw [or_bit] at h ⊢
      rcases Bool.or_eq_true _ _ |>.mp h with h | h
      · rw [hinv p hpm h]; rfl
      · have : p.2 = f := by simpa using (of_decide_eq_true h).symm
        rw [hp p hpm this]; rfl)
    refine ⟨f :: o, ?_, ?_⟩
    · rw [compsU, List.mem_flatMap]
      refine ⟨f, List.mem_range.2 hf, ?_⟩
      rw [if_neg (by simp [hb, anyM])]
      exact List.mem_map.2 ⟨o, ho, rfl⟩
    · rw [pathC, hpc, Nat.add_zero]
      unfold costN
      rw [List.countP_eq_zero]
      intro p hpm hc
      simp only [Bool.and_eq_true, beq_iff_eq] at hc
      have := hinv p hpm hc.2
      rw [hc.1, hb] at this
      cases this
abbrev FW (n : Nat) (P : List (Nat × Nat)) : Nat := (fwD anyM P n 0).1
theorem FW_le {n : Nat} {P : List (Nat × Nat)} (G : Good n P) {o : List Nat} (ho : o ∈ ords n) : FW n P ≤ contr P o := (fw_min anyM G).le _ (List.mem_map.2 ⟨o, ho, rfl⟩)
theorem FW_at {n : Nat} {P : List (Nat × Nat)} (G : Good n P) : ∃ o ∈ ords n, contr P o = FW n P := by
  have hne := ords_ne n n 0 (leftN_none n)
  obtain ⟨o, ho, he⟩ := List.mem_map.1 ((fw_min anyM G).mem (by simpa using hne))
  exact ⟨o, ho, he⟩
/-- There is no ring just if an order contradicts nothing. -/
theorem no_ring {n : Nat} {P : List (Nat × Nat)} (G : Good n P) : allR P = [] ↔ FW n P = 0 := by
  constructor
  · intro h
    have hno : ∀ c, ¬ Cyc P c := fun c C => by
      obtain ⟨o, ho⟩ := cyc_min G C
      rw [h] at ho; simp at ho
    obtain ⟨o, ho, hpc⟩ := topo G hno n 0 (leftN_none n) (fun p _ h => by simp at h)
    rw [path_contr anyM (fun p hp => (G.lt p hp).2) ho] at hpc
    have := FW_le G ho
    omega
  · intro h
    obtain ⟨o, ho, hc⟩ := FW_at G
    rw [h] at hc
    cases hr : allR P with
    | nil => rfl
    | cons c r =>
      have := ((allR_mem G c).1 (by rw [hr]; simp)).1
      exact absurd hc (ring_contr G this ho)
end Go.Am.Ring

/-
  Forms and finds, in plain: striking one by one gives the first of the smallest lists.
-/
set_option linter.unusedVariables false
set_option linter.unusedSimpArgs false
namespace Go.Am.Ring

def badB (o : List Nat) (p : Nat × Nat) : Bool := decide (pos o p.2 < pos o p.1)
theorem contr_cons (o : List Nat) (p : Nat × Nat) (P : List (Nat × Nat)) : contr (p :: P) o = contr P o + if badB o p then 1 else 0 := by
  unfold contr badB
  rw [List.countP_cons]
theorem wo_congr (S T : List Nat) (h : ∀ x, x ∈ S ↔ x ∈ T) : ∀ (l : List (Nat × Nat)) (k : Nat), woF S k l = woF T k l
  | [], k => rfl
  | p :: r, k => by
    rw [woF, woF, wo_congr S T h r (k + 1)]
    by_cases c : k ∈ S
    · rw [if_pos c, if_pos ((h k).1 c)]
    · rw [if_neg c, if_neg fun c2 => c ((h k).2 c2)]
theorem wo_nil : ∀ (l : List (Nat × Nat)) (k : Nat), woF [] k l = l
  | [], k => rfl
  | p :: r, k => by rw [woF, wo_nil r (k + 1)]; simp
/-- One more find struck out. -/
theorem wo_add (o : List Nat) (S : List Nat) (j : Nat) (hj : j ∉ S) : ∀ (l : List (Nat × Nat)) (k : Nat), contr (woF S k l) o = contr (woF (S ++ [j]) k l) o + if k ≤ j ∧ j < k + l.length ∧ badB o (l.getD (j - k) (0, 0)) = true then 1 else 0
  | [], k => by simp [woF]; omega
  | p :: r, k => by
    have ih := wo_add o S j hj r (k + 1)
    rw [woF, woF]
    by_cases c : k = j
    · subst c
      rw [if_neg hj, if_pos (by simp), contr_cons, ih]
      have e0 : ¬ (k + 1 ≤ k ∧ k < k + 1 + r.length ∧ badB o (r.getD (k - (k + 1)) (0, 0)) = true) := by omega
      rw [if_neg e0]
      simp
    · have e1 : (k ∈ S ++ [j]) ↔ k ∈ S := by simp [c]
      have e2 : (k ≤ j ∧ j < k + (p :: r).length ∧ badB o ((p :: r).getD (j - k) (0, 0)) = true) ↔ (k + 1 ≤ j ∧ j < k + 1 + r.length ∧ badB o (r.getD (j - (k + 1)) (0, 0)) = true) := by
        constructor
        · rintro ⟨h1, h2, h3⟩
          refine ⟨by omega, by simp at h2; omega, ?_⟩
          rw [show j - k = (j - (k + 1)) + 1 by omega] at h3
          simpa using h3
        · rintro ⟨h1, h2, h3⟩
          refine ⟨by omega, by simp; omega, ?_⟩
          rw [show j - k = (j - (k + 1)) + 1 by omega]
          simpa using h3
      simp only [e1, e2]
      by_cases c2 : k ∈ S
      · rw [if_pos c2, if_pos c2]; exact ih
      · rw [if_neg c2, if_neg c2, contr_cons, contr_cons, ih]; omega
abbrev wS (P : List (Nat × Nat)) (S : List Nat) : List (Nat × Nat) := woF S 0 P
abbrev FS (n : Nat) (P : List (Nat × Nat)) (S : List Nat) : Nat := FW n (wS P S)
theorem FS_add {n : Nat} {P : List (Nat × Nat)} (G : Good n P) (S : List Nat) (j : Nat) (hj : j ∉ S) : FS n P (S ++ [j]) ≤ FS n P S ∧ FS n P S ≤ FS n P (S ++ [j]) + 1 := by
  have G1 := good_wo G S 0
  have G2 := good_wo G (S ++ [j]) 0
  obtain ⟨o1, h1, e1⟩ := FW_at G1
  obtain ⟨o2, h2, e2⟩ := FW_at G2
  have a1 := wo_add o1 S j hj P 0
  have a2 := wo_add o2 S j hj P 0
  have b1 := FW_le G2 h1
  have b2 := FW_le G1 h2
  simp only [FS, wS] at *
  constructor
  · split at a1 <;> omega
  · split at a2 <;> omega
/-- Where something is contradicted, a find can be struck out that helps. -/
theorem FS_drop {n : Nat} {P : List (Nat × Nat)} (G : Good n P) (S : List Nat) (h : FS n P S ≠ 0) : ∃ j, j < P.length ∧ j ∉ S ∧ FS n P (S ++ [j]) < FS n P S := by
  obtain ⟨o, ho, he⟩ := FW_at (good_wo G S 0)
  have key : ∀ (l : List (Nat × Nat)) (k : Nat), contr (woF S k l) o ≠ 0 → ∃ j, k ≤ j ∧ j < k + l.length ∧ j ∉ S ∧ badB o (l.getD (j - k) (0, 0)) = true := by
    intro l
    induction l with
    | nil => intro k h; simp [woF, contr] at h
    | cons p r ih =>
      intro k h
      rw [woF] at h
      by_cases c : k ∈ S
      · rw [if_pos c] at h
        obtain ⟨j, h1, h2, h3, h4⟩ := ih (k + 1) h
        refine ⟨j, by omega, by simp; omega, h3, ?_⟩
        rw [show j - k = (j - (k + 1)) + 1 by omega]
        simpa using h4
      · rw [if_neg c, contr_cons] at h
        by_cases hb : badB o p = true
        · exact ⟨k, Nat.le_refl _, by simp, c, by simpa using hb⟩
        · rw [if_neg hb, Nat.add_zero] at h
          obtain ⟨j, h1, h2, h3, h4⟩ := ih (k + 1) h
          refine ⟨j, by omega, by simp; omega, h3, ?_⟩
          rw [show j - k = (j - (k + 1)) + 1 by omega]
          simpa using h4
  obtain ⟨j, _, h2, h3, h4⟩ := key P 0 (by rw [he]; exact h)
  refine ⟨j, by omega, h3, ?_⟩
  have a := wo_add o S j h3 P 0
  rw [if_pos ⟨by omega, h2, h4⟩] at a
  have b := FW_le (good_wo G (S ++ [j]) 0) ho
  simp only [FS, wS] at *
  omega
/-- The reference's search from an index on. -/
def strikeF (P : List (Nat × Nat)) : Nat → List Nat → Nat → Option (List Nat)
  | 0, b, _ => if allR (woF b 0 P) = [] then some b else none
  | k + 1, b, i => (List.range' i (P.length - i)).findSome? fun i => strikeF P k (b ++ [i]) (i + 1)
theorem strikeS_F (P : List (Nat × Nat)) : ∀ (k : Nat) (b : List Nat), strikeS P k b = strikeF P k b (fromN b)
  | 0, b => rfl
  | k + 1, b => by
    rw [strikeS, strikeF]
    congr 1
    funext i
    rw [strikeS_F P k (b ++ [i])]
    congr 1
    unfold fromN
    simp
theorem strikeF_le {n : Nat} {P : List (Nat × Nat)} (G : Good n P) : ∀ (k : Nat) (b : List Nat) (i : Nat), (∀ x ∈ b, x < i) → ∀ l, strikeF P k b i = some l → FS n P b ≤ k
  | 0, b, i, _, l, h => by
    rw [strikeF] at h
    split at h
    · rename_i hr
      have := (no_ring (good_wo G b 0)).1 hr
      exact Nat.le_of_eq this
    · cases h
  | k + 1, b, i, hb, l, h => by
    rw [strikeF] at h
    obtain ⟨i', hi', h⟩ := List.exists_of_findSome?_eq_some h
    rw [List.mem_range'_1] at hi'
    have := strikeF_le G k (b ++ [i']) (i' + 1) (by
      intro x hx
      rcases List.mem_append.1 hx with hx | hx
      · have := hb x hx; omega
      · rw [List.mem_singleton.1 hx]; omega) l h
    have h2 := (FS_add G b i' (fun c => by have := hb i' c; omega)).2
    omega
/-- One by one, each if that helps. -/
def strG (n : Nat) (P : List (Nat × Nat)) : Nat → Nat → List Nat → List Nat
  | 0, _, b => b
  | k + 1, i, b => if FS n P (b ++ [i]) < FS n P b then strG n P k (i + 1) (b ++ [i]) else strG n P k (i + 1) b
theorem strG_zero (n : Nat) (P : List (Nat × Nat)) : ∀ (k i : Nat) (b : List Nat), FS n P b = 0 → strG n P k i b = b
  | 0, _, _, _ => rfl
  | k + 1, i, b, h => by rw [strG, if_neg (by omega)]; exact strG_zero n P k (i + 1) b h
theorem strikeF_G {n : Nat} {P : List (Nat × Nat)} (G : Good n P) : ∀ (d i : Nat) (b : List Nat), i + d = P.length → (∀ x ∈ b, x < i) → (∀ j, j < i → j ∉ b → FS n P (b ++ [j]) = FS n P b) → strikeF P (FS n P b) b i = some (strG n P d i b)
  | d, i, b, hd, hb, hinv => by
    cases hk : FS n P b with
    | zero =>
      rw [strG_zero n P d i b hk, strikeF, if_pos ((no_ring (good_wo G b 0)).2 hk)]
    | succ k =>
      cases d with
      | zero =>
        exfalso
        obtain ⟨j, h1, h2, h3⟩ := FS_drop G b (by omega)
        have := hinv j (by omega) h2
        omega
      | succ d =>
        have hib : i ∉ b := fun c => by have := hb i c; omega
        have hadd := FS_add G b i hib
        rw [strikeF, show P.length - i = d + 1 by omega, List.range'_succ, List.findSome?_cons, strG]
        have hb2 : ∀ x ∈ b ++ [i], x < i + 1 := by
          intro x hx
          rcases List.mem_append.1 hx with hx | hx
          · have := hb x hx; omega
          · rw [List.mem_singleton.1 hx]; omega
        by_cases c : FS n P (b ++ [i]) < FS n P b
        · rw [if_pos c]
          have hk2 : FS n P (b ++ [i]) = k := by omega
          have ih := strikeF_G G d (i + 1) (b ++ [i]) (by omega) hb2 (by
            intro j hj hjn
            have hji : j ≠ i := fun e => hjn (by simp [e])
            have hjb : j ∉ b := fun e => hjn (by simp [e])
            have h1 := FS_add G (b ++ [i]) j hjn
            have h2 := FS_add G (b ++ [j]) i (by simp [hib, Ne.symm hji])
            have h3 := hinv j (by omega) hjb
            have h4 : FS n P (b ++ [i] ++ [j]) = FS n P (b ++ [j] ++ [i]) := by
              unfold FS wS
              rw [wo_congr (b ++ [i] ++ [j]) (b ++ [j] ++ [i]) (by intro x; simp; constructor <;> (rintro (h | h | h) <;> simp [h]))]
            omega)
          rw [hk2] at ih
          rw [ih]
        · rw [if_neg c]
          have hnone : strikeF P k (b ++ [i]) (i + 1) = none := by
            cases h : strikeF P k (b ++ [i]) (i + 1) with
            | none => rfl
            | some l =>
              have := strikeF_le G k (b ++ [i]) (i + 1) hb2 l h
              omega
          rw [hnone]
          have ih := strikeF_G G d (i + 1) b (by omega) (fun x hx => by have := hb x hx; omega) (by
            intro j hj hjb
            by_cases e : j = i
            · subst e; omega
            · exact hinv j (by omega) hjb)
          rw [hk, strikeF, show P.length - (i + 1) = d by omega] at ih
          exact ih
/-- The list that both return. -/
abbrev strL (n : Nat) (P : List (Nat × Nat)) : List Nat := strG n P P.length 0 []
theorem strike_some {n : Nat} {P : List (Nat × Nat)} (G : Good n P) : strikeS P (FW n P) [] = some (strL n P) ∧ ∀ i, i < FW n P → strikeS P i [] = none := by
  have h0 : FS n P [] = FW n P := by unfold FS wS; rw [wo_nil]
  constructor
  · have := strikeF_G G P.length 0 [] (by omega) (by simp) (by omega)
    rw [h0] at this
    rw [strikeS_F]
    exact this
  · intro i hi
    cases h : strikeS P i [] with
    | none => rfl
    | some l =>
      rw [strikeS_F] at h
      have := strikeF_le G i [] (fromN []) (by simp) l h
      omega
end Go.Am.Ring

/-
  What functions of chapter 04 compute, 19: a find is taken out of a list.
-/
set_option linter.unusedVariables false
set_option linter.unusedSimpArgs false
set_option maxRecDepth 10000
namespace Go.Am.Ring
open Go.Am.G

theorem app_del2 (m : LMem) (i na nb n L : Nat) (A X B : List LV) (hA : A.length = na * 2) (hX : X.length = 2) (hB : B.length = nb * 2) (hn : n = na + 1 + nb) (hL : L = n * 2) (hs : n < 1000) (hsB : B.all LV.scalar = true) (c' : Nat) (h : m[i]? = some ⟨A ++ X ++ B, true⟩) :
    ∃ C, appendL m 2 16 (.sl i 0 na n 2 2 L) (.sl i ((na + 1) * 2) nb c' 2 2 L) = some (.sl i 0 (na + nb) n 2 2 L, m.set i ⟨C, true⟩) ∧ C.length = L ∧ C.take ((na + nb) * 2) = A ++ B := by
  have hlen : (A ++ X ++ B).length = L := by simp; omega
  have c1 : contents m 2 (.sl i 0 na n 2 2 L) = some (A, na) := by
    simp only [contents, h]
    simp only [nbeq, nble, hlen, Nat.zero_add, show na * 2 ≤ L by omega, decide_true, Bool.and_self, cond_true, List.drop_zero]
    congr 2
    rw [List.append_assoc, List.take_append_of_le_length (by omega), List.take_of_length_le (by omega)]
  have c2 : contents m 2 (.sl i ((na + 1) * 2) nb c' 2 2 L) = some (B, nb) := by
    simp only [contents, h]
    simp only [nbeq, nble, hlen, show (na + 1) * 2 + nb * 2 ≤ L by omega, decide_true, Bool.and_self, cond_true]
    congr 2
    have : (A ++ X).length = (na + 1) * 2 := by simp; omega
    rw [← this, List.drop_left, List.take_of_length_le (by omega)]
  by_cases hb : nb = 0
  · have hB0 : B = [] := List.length_eq_zero_iff.1 (by omega)
    subst hB0 hb
    refine ⟨A ++ X ++ [], ?_, hlen, ?_⟩
    · have hm : m.set i ⟨A ++ X ++ [], true⟩ = m := by
        apply List.ext_getElem?
        intro j
        rw [List.getElem?_set]
        by_cases hj : i = j
        · subst hj
          have hi := (List.getElem?_eq_some_iff.1 h).1
          simp only [if_true, hi]
          exact h.symm
        · simp [hj]
      rw [hm]
      unfold appendL
      simp only [c1, c2]
      simp [nbeq, nble, show na ≤ n by omega]
    · rw [List.append_nil, List.append_nil, Nat.add_zero, List.take_append_of_le_length (by omega), List.take_of_length_le (by omega)]
  · have hroom : (Nat.ble ((na + nb) * 16) roomMost && Nat.ble (na + nb) roomMost && B.all LV.scalar) = true := by
      rw [hsB]
      simp only [roomMost, nble, Bool.and_true, Bool.and_eq_true, decide_eq_true_eq]
      omega
    refine ⟨spliceL (A ++ X ++ B) (0 + na * 2) B, ?_, ?_, ?_⟩
    · unfold appendL
      simp only [c1, c2, hroom, h]
      simp only [nbeq, hb, decide_false, cond_false, cond_true, nble, show na + nb ≤ n by omega, decide_true]
      simp [show (na + nb) * 2 ≤ L by omega]
      try omega
    · unfold spliceL
      simp only [List.length_append, List.length_take, List.length_drop]
      omega
    · unfold spliceL
      have e1 : (A ++ X ++ B).take (0 + na * 2) = A := by
        rw [List.append_assoc, List.take_append_of_le_length (by omega), List.take_of_length_le (by omega)]
      rw [e1, List.take_append_of_le_length (by simp; omega), List.take_of_length_le (by simp; omega)]
theorem delete2_c (m : LMem) (i na nb n L : Nat) (A X B : List LV) (hA : A.length = na * 2) (hX : X.length = 2) (hB : B.length = nb * 2) (hn : n = na + 1 + nb) (hL : L = n * 2) (hs : n < 1000) (hsB : B.all LV.scalar = true) (h : m[i]? = some ⟨A ++ X ++ B, true⟩) :
    clF LP n_slices_Delete_2_int_2_int [.sl i 0 n n 2 2 L, .int .i64 (na : Int), .int .i64 ((na + 1 : Nat) : Int)] m = some (.W, .sl i 0 (na + nb) n 2 2 L, m.set i ⟨A ++ B ++ [.int .i64 0, .int .i64 0], true⟩) := by
  obtain ⟨C, h1, h2, h3⟩ := app_del2 m i na nb n L A X B hA hX hB hn hL hs hsB (n - (na + 1)) h
  have hi := (List.getElem?_eq_some_iff.1 h).1
  have hcl : clrsL (m.set i ⟨C, true⟩) [.int .i64 0, .int .i64 0] (.sl i ((na + nb) * 2) 1 1 2 2 L) = some (m.set i ⟨A ++ B ++ [.int .i64 0, .int .i64 0], true⟩) := by
    simp only [clrsL, List.getElem?_set, if_true, hi, List.set_set]
    have e : (na + nb) * 2 + 1 * 2 ≤ L := by omega
    have hz : zerosL (ofAVs [.int .i64 0, .int .i64 0]) (1 * 2) = [.int .i64 0, .int .i64 0] := rfl
    have hd : C.drop ((na + nb) * 2 + 2) = [] := List.drop_eq_nil_of_le (by omega)
    simp only [nbeq, nble, h2, List.length_cons, List.length_nil, Nat.zero_add, Nat.reduceAdd, e, decide_true, List.all_cons, List.all_nil, AV.scalar, Bool.and_self, cond_true, spliceL, h3, hz, hd, List.append_nil]
  have ht : trim m.length [.sl i 0 (na + nb) n 2 2 L] (m.set i ⟨A ++ B ++ [.int .i64 0, .int .i64 0], true⟩) = m.set i ⟨A ++ B ++ [.int .i64 0, .int .i64 0], true⟩ := trim_le _ _ _ (by simp)
  conv => rhs; rw [← ht]
  refine call_W lp_slices_Delete_2_int_2_int rfl ?_
  have e1 : ¬ (na : Int) = ((na + 1 : Nat) : Int) := by omega
  have hb1 : n - (na + 1) = nb := by omega
  rw [hb1] at h1
  simp only [slices_Delete_2_int_2_int, slices_Delete_2_int_2_int.B, exF_seq, exF_region, exF_cond, exF_ret, exF_skip, runL, wantL, stepL, evL, evC, LEnv.at, putL, loadFine, LEnv.keep, LEnv.ofFrom, List.map_cons, List.map_nil, nbeq, nble, lenL, bin_eql, natL_nat, Nat.zero_mul, Bool.or_true, Bool.and_true, Bool.true_and, Nat.reduceEqDiff, decide_true, decide_false, cond_true, cond_false, Nat.reduceAdd, reduceCtorEq, eq_self, retL, resultsL, resAllL, resOfL, Nat.le_refl, sliceL, optNatL, Option.map_some, Option.map_none, Option.isSome_some, Option.isSome_none, Bool.or_true, show na + 1 ≤ n by omega, show na ≤ na + 1 by omega, e1, show na ≤ n by omega, hb1, Nat.zero_le, Nat.sub_zero, Nat.zero_add, natL_nat, h1]
  simp only [LEnv.at, nbeq, decide_true, decide_false, cond_true, cond_false, reduceCtorEq, eq_self, show na + nb ≤ n by omega, show n - (na + nb) = 1 by omega, hcl]
end Go.Am.Ring

/-
  Forms and finds, in plain: where a find is among those that are left.
-/
set_option linter.unusedVariables false
set_option linter.unusedSimpArgs false
namespace Go.Am.Ring

theorem wo_app (S : List Nat) : ∀ (a b : List (Nat × Nat)) (k : Nat), woF S k (a ++ b) = woF S k a ++ woF S (k + a.length) b
  | [], b, k => by simp [woF]
  | p :: a, b, k => by
    rw [List.cons_append, woF, woF, wo_app S a b (k + 1), List.length_cons, show k + 1 + a.length = k + (a.length + 1) by omega]
    split <;> rfl
theorem wo_high (S : List Nat) : ∀ (l : List (Nat × Nat)) (k : Nat), (∀ x ∈ S, x < k) → woF S k l = l
  | [], k, _ => rfl
  | p :: r, k, h => by
    rw [woF, if_neg (fun c => by have := h k c; omega), wo_high S r (k + 1) fun x hx => by have := h x hx; omega]
theorem wo_low (S : List Nat) (j : Nat) : ∀ (l : List (Nat × Nat)) (k : Nat), k + l.length ≤ j → woF (S ++ [j]) k l = woF S k l
  | [], k, _ => rfl
  | p :: r, k, h => by
    simp at h
    rw [woF, woF, wo_low S j r (k + 1) (by omega)]
    have : (k ∈ S ++ [j]) ↔ k ∈ S := by simp; omega
    simp only [this]
theorem count_one : ∀ (S : List Nat) (k : Nat), S.Nodup → k ∈ S → S.count k = 1
  | [], k, _, h => by simp at h
  | a :: S, k, hn, h => by
    have hn := List.nodup_cons.1 hn
    rw [List.count_cons]
    by_cases c : a = k
    · subst c
      rw [List.count_eq_zero.2 hn.1]; simp
    · rcases List.mem_cons.1 h with h | h
      · exact absurd h.symm c
      · rw [count_one S k hn.2 h]; simp [c]
theorem wo_count (S : List Nat) (hS : S.Nodup) : ∀ (l : List (Nat × Nat)) (k : Nat), (woF S k l).length + S.countP (fun x => decide (k ≤ x ∧ x < k + l.length)) = l.length
  | [], k => by
    have : S.countP (fun x => decide (k ≤ x ∧ x < k + ([] : List (Nat × Nat)).length)) = 0 := by
      rw [List.countP_eq_zero]
      intro x _
      simp
    rw [this]; rfl
  | p :: r, k => by
    have ih := wo_count S hS r (k + 1)
    have e : S.countP (fun x => decide (k ≤ x ∧ x < k + (p :: r).length)) = S.count k + S.countP (fun x => decide (k + 1 ≤ x ∧ x < k + 1 + r.length)) := by
      clear ih hS
      induction S with
      | nil => rfl
      | cons a S ih =>
        rw [List.countP_cons, List.countP_cons, List.count_cons, ih]
        by_cases c : a = k
        · subst c
          have e3 : decide (a ≤ a ∧ a < a + (p :: r).length) = true := by simp
          have e4 : decide (a + 1 ≤ a ∧ a < a + 1 + r.length) = false := by rw [decide_eq_false_iff_not]; omega
          rw [e3, e4]
          simp only [beq_self_eq_true, if_true, Bool.false_eq_true, if_false]
          omega
        · have e1 : (a == k) = false := by simpa using c
          have e2 : (k ≤ a ∧ a < k + (p :: r).length) ↔ (k + 1 ≤ a ∧ a < k + 1 + r.length) := by simp; omega
          simp only [e1, e2]
          simp
          omega
    rw [e, woF]
    by_cases c : k ∈ S
    · rw [if_pos c, count_one S k hS c, List.length_cons]; omega
    · rw [if_neg c, List.count_eq_zero.2 c, List.length_cons, List.length_cons]; omega
/-- Those left, split at a find that is behind all that are struck. -/
theorem wo_split (P : List (Nat × Nat)) (S : List Nat) (hS : S.Nodup) (j : Nat) (hj : j < P.length) (h : ∀ x ∈ S, x < j) : ∃ A B, woF S 0 P = A ++ P[j] :: B ∧ woF (S ++ [j]) 0 P = A ++ B ∧ A.length + S.length = j := by
  have e : P = P.take j ++ P[j] :: P.drop (j + 1) := by rw [List.getElem_cons_drop, List.take_append_drop]
  have hl : (P.take j).length = j := by simp; omega
  refine ⟨woF S 0 (P.take j), P.drop (j + 1), ?_, ?_, ?_⟩
  · conv => lhs; rw [e]
    rw [wo_app, hl, Nat.zero_add, wo_high S _ j h]
  · conv => lhs; rw [e]
    rw [wo_app, hl, Nat.zero_add, wo_low S j (P.take j) 0 (by omega), woF, if_pos (by simp), wo_high (S ++ [j]) _ (j + 1) (by
      intro x hx
      rcases List.mem_append.1 hx with hx | hx
      · have := h x hx; omega
      · rw [List.mem_singleton.1 hx]; omega)]
  · have := wo_count S hS (P.take j) 0
    have e2 : S.countP (fun x => decide (0 ≤ x ∧ x < 0 + (P.take j).length)) = S.length := by
      rw [List.countP_eq_length]
      intro x hx
      have := h x hx
      rw [hl]
      simpa using this
    rw [e2, hl] at this
    exact this
end Go.Am.Ring

/-
  What functions of chapter 04 compute, 20: the program's Strike.
-/
set_option linter.unusedVariables false
set_option linter.unusedSimpArgs false
set_option maxRecDepth 10000
namespace Go.Am.Ring
open Go.Am.G

/-- Finds in memory, in a block that may have more room. -/
def LV2 (m : LMem) (v : LV) (ib : Nat) (l : List (Nat × Nat)) : Prop :=
  ∃ cap L Z w, v = .sl ib 0 l.length cap 2 2 L ∧ m[ib]? = some ⟨Pcs l ++ Z, w⟩ ∧ (Pcs l ++ Z).length = L ∧ l.length ≤ cap
theorem LV2.view {m : LMem} {v : LV} {ib : Nat} {l : List (Nat × Nat)} (h : LV2 m v ib l) : ∃ ex, ∀ k, view (k + 3) m v = some (FN false ex 2 l, [ib]) := by
  obtain ⟨cap, L, Z, w, rfl, hm, hL, hc⟩ := h
  have hp := Pcs_len l
  have hlen : (Pcs l ++ Z).length = l.length * 2 + Z.length := by rw [List.length_append, hp]
  have htk : (Pcs l ++ Z).take (l.length * 2) = Pcs l := by rw [List.take_append_of_le_length (by omega), List.take_of_length_le (by omega)]
  refine ⟨Nat.beq 2 0 && Nat.beq cap l.length, fun k => ?_⟩
  have := view_slc k m ib 0 l.length L 2 cap 2 (Pcs l ++ Z) w hm (by rw [List.drop_zero, htk]; exact Pcs_pures l) hL (by omega) hc
  rw [List.drop_zero, htk] at this
  simp only [FN_eq]
  exact this
theorem views_fill {m : LMem} {v : LV} {ib : Nat} {l : List (Nat × Nat)} (n : Nat) (ex : Bool) (h : ∀ k, Go.Am.view (k + 3) m v = some (FN false ex 2 l, [ib])) (hv : v.pure = false) : views m [.int .i64 (n : Int), v, .func n_ring_anyForm [] []] = some ([.int .i64 (n : Int), FN false ex 2 l, .func n_ring_anyForm [] []], [ib]) := by
  show viewL 100 m _ = _
  rw [viewL.eq_def]
  simp only [show LV.pures [.int .i64 (n : Int), v, .func n_ring_anyForm [] []] = false by simp [LV.pures, LV.pure, hv], cond_false]
  rw [viewC.eq_def]
  simp only [view_pure 96 m (.int .i64 (n : Int)) rfl]
  rw [viewC.eq_def]
  simp only [h 94]
  rw [viewC.eq_def]
  simp only [view_pure 94 m (.func n_ring_anyForm [] []) rfl]
  rw [viewC.eq_def]
  rfl
theorem clone2_m {args : List LV} {ids : List Nat} {m : LMem} (ex : Bool) (l : List (Int × Int)) (hl : l.length < 1000) (hne : l ≠ []) (hv : views m args = some ([FL false ex 2 l], ids)) : clF LP n_slices_Clone_2_int_2_int args m = some (.O, .sl m.length 0 l.length l.length 2 2 (l.length * 2), m ++ [⟨pcI l, true⟩]) := by
  have h0 : ¬ l.length = 0 := by simpa using hne
  have hr1 : l.length * 16 ≤ roomMost := by unfold roomMost; omega
  have hr2 : l.length ≤ roomMost := by unfold roomMost; omega
  have hsc : (pcI l).all LV.scalar = true := by
    clear hv hl hne h0 hr1 hr2
    induction l with
    | nil => rfl
    | cons a r ih => exact ih
  have hpl := pcI_len l
  have hshift : ∀ n, LV.shifts n (pcI l) = pcI l := by
    intro n
    rw [pcI]
    clear hv hl hne h0 hr1 hr2 hsc hpl
    induction l with
    | nil => rfl
    | cons a r ih => rw [List.flatMap_cons]; simp only [pc, List.cons_append, List.nil_append, LV.shifts, LV.shift, ih]
  have hsolid : LV.solids (pcI l) = true := by
    rw [pcI]
    clear hv hl hne h0 hr1 hr2 hsc hpl hshift
    induction l with
    | nil => rfl
    | cons a r ih => rw [List.flatMap_cons]; simp only [pc, List.cons_append, List.nil_append, LV.solids, LV.solid, ih, Bool.true_and]
  rw [clF_eq, lp_slices_Clone_2_int_2_int]
  simp only [callMode, slices_Clone_2_int_2_int, hv]
  simp only [slices_Clone_2_int_2_int.B, exF_seq, exF_region, exF_cond, exF_ret, exF_skip, runL, wantL, stepL, evL, evC, LEnv.at, putL, loadFine, LEnv.keep, LEnv.ofFrom, List.map_cons, List.map_nil, nbeq, nble, ofAVs, Nat.zero_mul, Bool.or_false, Bool.or_true, Bool.and_true, Nat.reduceEqDiff, decide_true, decide_false, cond_true, cond_false, reduceCtorEq, List.length_nil, eq_self, retL, resultsL, resAllL, resOfL, List.nil_append, freeze, Nat.reduceDiv, List.take_nil, List.all_cons, List.all_nil, fillL, nilOf, eqsL, Bool.xor_false, LV.shift, newOnly, LV.solid, appendL, contents, views, viewL, h0, hr1, hr2, hsc, newSl, Nat.zero_add, hshift, hsolid]
theorem filled_m {m : LMem} {v : LV} {ib : Nat} {l : List (Nat × Nat)} (n : Nat) (G : Good n l) (h : LV2 m v ib l) : ∃ m', clF LP n_ring_filled [.int .i64 (n : Int), v, .func n_ring_anyForm [] []] m = some (.P, .elt (tabA n l) 0, m') ∧ (∀ i, i ≠ ib → m'[i]? = m[i]?) ∧ m'.length = m.length ∧ LV2 m' v ib l := by
  obtain ⟨ex, hv⟩ := h.view
  obtain ⟨cap, L, Z, w, rfl, hm, hL, hc⟩ := h
  obtain ⟨m', h1, h2, h3, h4⟩ := call_shown2 lp_ring_filled rfl (views_fill n ex hv rfl) (by simp [LV.pures, LV.pure]) (filledA_c n l G false ex 2 [])
  obtain ⟨w', hm'⟩ := h4 ib _ _ hm
  exact ⟨m', h1, fun i hi => h2 i (by simpa using hi), h3, cap, L, Z, w', rfl, hm', hL, hc⟩
theorem LV2.mono {m m' : LMem} {v : LV} {ib : Nat} {l : List (Nat × Nat)} (h : LV2 m v ib l) (e : m'[ib]? = m[ib]?) : LV2 m' v ib l := by
  obtain ⟨cap, L, Z, w, h1, h2, h3, h4⟩ := h
  exact ⟨cap, L, Z, w, h1, by rw [e]; exact h2, h3, h4⟩
theorem LV2.lt {m : LMem} {v : LV} {ib : Nat} {l : List (Nat × Nat)} (h : LV2 m v ib l) : ib < m.length := by
  obtain ⟨cap, L, Z, w, h1, h2, h3, h4⟩ := h
  rcases Nat.lt_or_ge ib m.length with c | c
  · exact c
  · rw [List.getElem?_eq_none c] at h2; cases h2
theorem Pcs_app (a b : List (Nat × Nat)) : Pcs (a ++ b) = Pcs a ++ Pcs b := by simp [Pcs, pcI]
theorem strike_ploop (n : Nat) (P : List (Nat × Nat)) (G : Good n P) (d : Nat) : ∀ (i : Nat) (b : List Nat) (M : LMem) (vo v : LV) (ib : Nat), i + d = P.length → b.Nodup → (∀ x ∈ b, x < i) → Lst M vo 1 b.length ((ci b).map (LV.int .i64)) → LV2 M v ib (wS P b) → ¬ isBlk vo ib →
    ∃ vo' M', exF LP ring_Strike.L0 [(0, .int .i64 (n : Int)), (7, vo), (8, v), (22, .int .i64 (P.length : Int)), (23, .int .i64 (i : Int))] M = some (.exit 0, [(7, vo')], M') ∧ Lst M' vo' 1 (strG n P d i b).length ((ci (strG n P d i b)).map (LV.int .i64)) := by
  have h12 := G.le12
  induction d with
  | zero =>
    intro i b M vo v ib hi hnd hb hL hV hne
    refine ⟨vo, M, ?_, hL⟩
    rw [ring_Strike.L0_eq]
    simp only [ring_Strike.B0, exF_seq, exF_region, exF_cond, exF_exit, runL, wantL, stepL, evL, LEnv.at, putL, loadFine, LEnv.keep, List.map_cons, List.map_nil, nbeq, bin_lss, Nat.reduceEqDiff, decide_true, decide_false, cond_true, cond_false, reduceCtorEq, eq_self, show ¬ ((i : Int) < (P.length : Int)) by omega]
  | succ d ih =>
    intro i b M vo v ib hi hnd hb hL hV hne
    have h2 : i < P.length := by omega
    have hii : (i : Int) < (P.length : Int) := by omega
    have hs := wrap_succ (show i + 1 < 9223372036854775808 by omega)
    obtain ⟨A, B, eA, eB, hAl⟩ := wo_split P b hnd i h2 hb
    have G1 := good_wo G b 0
    have G2 := good_wo G (b ++ [i]) 0
    obtain ⟨M1, f1, k1, l1, V1⟩ := filled_m n G1 hV
    obtain ⟨ex, hv⟩ := V1.view
    have hvp : LV.pures [v] = false := by
      obtain ⟨cap, L, Z, w, rfl, _⟩ := hV
      rfl
    have hv1 := views_one 92 M1 v _ _ hv hvp
    have hlen : (wS P b).length = A.length + 1 + B.length := by rw [wS, eA]; simp; omega
    have hle : (wS P b).length ≤ P.length := woF_len b P 0
    have hcl := clone2_m (args := [v]) (m := M1) ex ((wS P b).map castP) (by rw [List.length_map]; omega) (by
      intro c
      have := congrArg List.length c
      rw [List.length_map, hlen] at this
      simp at this) hv1
    rw [List.length_map] at hcl
    have hblk : (M1 ++ [⟨pcI ((wS P b).map castP), true⟩])[M1.length]? = some ⟨Pcs A ++ Pcs [P[i]] ++ Pcs B, true⟩ := by
      rw [last_at, wS, eA]
      have : pcI ((A ++ P[i] :: B).map castP) = Pcs A ++ Pcs [P[i]] ++ Pcs B := by
        have e := Pcs_app (A ++ [P[i]]) B
        rw [Pcs_app A [P[i]]] at e
        rw [show A ++ P[i] :: B = A ++ [P[i]] ++ B by simp]
        exact e
      rw [this]
    have hdel := delete2_c (M1 ++ [⟨pcI ((wS P b).map castP), true⟩]) M1.length A.length B.length (wS P b).length ((wS P b).length * 2) (Pcs A) (Pcs [P[i]]) (Pcs B) (Pcs_len A) (Pcs_len [P[i]]) (Pcs_len B) hlen rfl (by omega) (Pcs_scalar B) hblk
    rw [last_set] at hdel
    have hV3 : LV2 (M1 ++ [⟨Pcs A ++ Pcs B ++ [.int .i64 0, .int .i64 0], true⟩]) (.sl M1.length 0 (A.length + B.length) (wS P b).length 2 2 ((wS P b).length * 2)) M1.length (wS P (b ++ [i])) := by
      have hl2 : (wS P (b ++ [i])).length = A.length + B.length := by rw [wS, eB]; simp
      refine ⟨(wS P b).length, (wS P b).length * 2, [.int .i64 0, .int .i64 0], true, by rw [hl2], ?_, ?_, by omega⟩
      · rw [last_at, wS, eB, Pcs_app]
      · rw [List.length_append, Pcs_len, hl2]
        simp; omega
    obtain ⟨M4, f2, k4, l4, V4⟩ := filled_m n G2 hV3
    have hibl := hV.lt
    have hM3l : (M1 ++ [⟨Pcs A ++ Pcs B ++ [.int .i64 0, .int .i64 0], true⟩] : LMem).length = M.length + 1 := by simp [l1]
    have hL4 : Lst M4 vo 1 b.length ((ci b).map (LV.int .i64)) := hL.mono fun j hj => by
      have h1 := hL.lt j hj
      have h3 : j ≠ ib := fun e => hne (e ▸ hj)
      rw [k4 j (by omega), List.getElem?_append_left (by omega), k1 j h3]
    have hwat : IntKind.i64.wrap ((i : Int) - (b.length : Int)) = (A.length : Int) := by rw [wrap_in (by omega)]; omega
    have hwat1 : IntKind.i64.wrap ((A.length : Int) + 1) = ((A.length + 1 : Nat) : Int) := wrap_succ (by omega)
    have h38 := tab_38 n (wS P b) anyM n_ring_anyForm [] []
    have hat := tF_at anyM (wS P b) n 0 (Nat.two_pow_pos n)
    have h38b := tab_38 n (wS P (b ++ [i])) anyM n_ring_anyForm [] []
    have hatb := tF_at anyM (wS P (b ++ [i])) n 0 (Nat.two_pow_pos n)
    have hpos := Nat.two_pow_pos n
    have hlo := hL.lenL
    rw [ring_Strike.L0_eq, strG]
    by_cases c : FS n P (b ++ [i]) < FS n P b
    · rw [if_pos c]
      have c' : (((fwD anyM (wS P (b ++ [i])) n 0).1 : Nat) : Int) < (((fwD anyM (wS P b) n 0).1 : Nat) : Int) := by
        have : (fwD anyM (wS P (b ++ [i])) n 0).1 < (fwD anyM (wS P b) n 0).1 := c
        omega
      obtain ⟨vo5, M5, hap, hL5, k5, l5, b5⟩ := hL4.append (x := .lst false true 1 1 [.int .i64 (i : Int)]) (k := 1) (news := [.int .i64 (i : Int)]) (bytes := 8) (by simp [contents, nbeq]) rfl (by omega) (by omega) rfl
      have hL5 : Lst M5 vo5 1 (b ++ [i]).length ((ci (b ++ [i])).map (LV.int .i64)) := by simpa using hL5
      have hn1 : ¬ isBlk vo M1.length := fun h => by have := hL.lt _ h; omega
      have V5 := V4.mono (m' := M5) (k5 M1.length (by rw [l4, hM3l]; omega) hn1)
      obtain ⟨vo', M', hex, hL'⟩ := ih (i + 1) (b ++ [i]) M5 vo5 _ M1.length (by omega) (by
        rw [List.nodup_append]
        refine ⟨hnd, by simp, ?_⟩
        intro x hx y hy
        simp at hy
        have := hb x hx
        omega) (by
        intro x hx
        rcases List.mem_append.1 hx with hx | hx
        · have := hb x hx; omega
        · rw [List.mem_singleton.1 hx]; omega) hL5 V5 (fun h => by
        rcases b5 _ h with h | h
        · exact hn1 h
        · rw [l4, hM3l] at h; omega)
      refine ⟨vo', M', ?_, hL'⟩
      simp only [ring_Strike.B0, exF_seq, exF_region, exF_block, exF_cond, exF_skip, runL, wantL, stepL, evL, evC, LEnv.at, putL, loadFine, loadL, cellsAt, Trk.putNew, Trk.up, Trk.touch, Trk.gives, Trk.calm, opdsOf, Trk.fresh, LEnv.keep, List.map_cons, List.map_nil, nbeq, nble, nblt, ofAV, ofAVs, bin_add, bin_sub, bin_lss, natL_zero, List.any_cons, List.any_nil, Bool.or_false, Bool.true_or, Bool.and_true, Bool.true_and, Bool.not_true, Bool.not_false, Nat.reduceEqDiff, decide_true, decide_false, cond_true, cond_false, List.filter_nil, List.filter_cons, Nat.reduceAdd, Nat.reduceLeDiff, reduceCtorEq, List.length_nil, List.length_cons, Nat.mul_one, if_true, eq_self, List.append_nil, List.nil_append, views_pures, LV.pures, LV.pure, freeze, Nat.reduceDiv, LV.cells, spliceL, List.take_zero, List.take_succ_cons, List.drop_zero, List.drop_succ_cons, List.drop_nil, List.take_nil, Nat.le_refl, fillL, List.length_append, hii, f1, Nat.zero_add, h38, hpos, hat, hlo, hwat, hcl, hwat1, hdel, f2, h38b, hatb, c', hap, hs, hex]
    · rw [if_neg c]
      have c' : ¬ (((fwD anyM (wS P (b ++ [i])) n 0).1 : Nat) : Int) < (((fwD anyM (wS P b) n 0).1 : Nat) : Int) := by
        have : ¬ (fwD anyM (wS P (b ++ [i])) n 0).1 < (fwD anyM (wS P b) n 0).1 := c
        omega
      have V6 := V1.mono (m' := M4) (by rw [k4 ib (by omega), List.getElem?_append_left (by omega)])
      obtain ⟨vo', M', hex, hL'⟩ := ih (i + 1) b M4 vo v ib (by omega) hnd (fun x hx => by have := hb x hx; omega) hL4 V6 hne
      refine ⟨vo', M', ?_, hL'⟩
      simp only [ring_Strike.B0, exF_seq, exF_region, exF_block, exF_cond, exF_skip, runL, wantL, stepL, evL, evC, LEnv.at, putL, loadFine, loadL, cellsAt, Trk.putNew, Trk.up, Trk.touch, Trk.gives, Trk.calm, opdsOf, Trk.fresh, LEnv.keep, List.map_cons, List.map_nil, nbeq, nble, nblt, ofAVs, bin_add, bin_sub, bin_lss, natL_zero, List.any_cons, List.any_nil, Bool.or_false, Bool.true_or, Bool.and_true, Bool.true_and, Bool.not_true, Bool.not_false, Nat.reduceEqDiff, decide_true, decide_false, cond_true, cond_false, List.filter_nil, List.filter_cons, Nat.reduceAdd, Nat.reduceLeDiff, reduceCtorEq, List.length_nil, List.length_cons, Nat.mul_one, if_true, eq_self, List.append_nil, List.nil_append, List.drop_zero, List.length_append, hii, f1, Nat.zero_add, h38, hpos, hat, hlo, hwat, hcl, hwat1, hdel, f2, h38b, hatb, c', hs, hex]
end Go.Am.Ring


