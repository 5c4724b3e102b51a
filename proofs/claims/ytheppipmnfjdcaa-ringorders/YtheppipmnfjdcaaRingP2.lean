/-
  Forms and finds, in plain: all orders; the table tells their least cost, how many have it, and the first one.
-/
import Derived.Test.YtheppipmnfjdcaaRingP1
set_option linter.unusedVariables false
set_option linter.unusedSimpArgs false
namespace Go.Am.Ring

def pathC (P : List (Nat × Nat)) : Nat → List Nat → Nat
  | _, [] => 0
  | done, f :: r => costN P f done + pathC P (done ||| 2 ^ f) r
def compsU (may : Nat → Nat → Bool) (n : Nat) : Nat → Nat → List (List Nat)
  | 0, _ => [[]]
  | u + 1, done => (List.range n).flatMap fun f => if done.testBit f || !may f done then [] else (compsU may n u (done ||| 2 ^ f)).map (f :: ·)

/-! ### The least of some numbers, and how often it is there -/
structure IsMin (L : List Nat) (r : Nat × Nat) : Prop where
  le : ∀ x ∈ L, r.1 ≤ x
  cnt : r.2 = L.count r.1
  nil : L = [] → r.1 = 13
  mem : L ≠ [] → r.1 ∈ L
theorem count_shift (c m : Nat) : ∀ (L : List Nat), (L.map (c + ·)).count (c + m) = L.count m
  | [] => rfl
  | a :: L => by
    rw [List.map_cons, List.count_cons, List.count_cons, count_shift c m L]
    congr 1
    by_cases h : a = m
    · subst h; simp
    · have : ¬ c + a = c + m := by omega
      simp [h, this]
theorem count_zero (L : List Nat) (m : Nat) (h : m ∉ L) : L.count m = 0 := List.count_eq_zero.2 h
theorem isMin_step (c : Nat) (L L2 : List Nat) (acc r2 : Nat × Nat) (h : IsMin L acc) (h2 : IsMin L2 r2) (hb : ∀ x ∈ L, x ≤ 12) (hb2 : ∀ x ∈ L2, c + x ≤ 12) :
    IsMin (L ++ L2.map (c + ·)) (if c + r2.1 < acc.1 then (c + r2.1, r2.2) else if c + r2.1 = acc.1 then (acc.1, acc.2 + r2.2) else acc) := by
  have ha : acc.1 ≤ 13 := by
    by_cases e : L = []
    · rw [h.nil e]; omega
    · have := hb _ (h.mem e); omega
  by_cases e2 : L2 = []
  · subst e2
    have hr := h2.nil rfl
    have hr2 : r2.2 = 0 := by rw [h2.cnt]; rfl
    rw [if_neg (by omega)]
    simp only [List.map_nil, List.append_nil, hr2, Nat.add_zero]
    split
    · exact h
    · exact h
  · have hm := h2.mem e2
    have hc := hb2 _ hm
    have hsh := count_shift c r2.1 L2
    have ne : L ++ L2.map (c + ·) = [] → False := by simp [e2]
    have hin : c + r2.1 ∈ L2.map (c + ·) := List.mem_map.2 ⟨_, hm, rfl⟩
    have hge : ∀ y ∈ L2.map (c + ·), c + r2.1 ≤ y := by
      intro y hy
      obtain ⟨x, hx, rfl⟩ := List.mem_map.1 hy
      have := h2.le x hx
      omega
    by_cases c1 : c + r2.1 < acc.1
    · rw [if_pos c1]
      refine ⟨?_, ?_, fun e => (ne e).elim, fun _ => List.mem_append.2 (.inr hin)⟩
      · intro x hx
        rcases List.mem_append.1 hx with hx | hx
        · have := h.le x hx; simp only; omega
        · exact hge x hx
      · simp only
        rw [List.count_append, hsh, count_zero L _ (fun hx => by have := h.le _ hx; omega), h2.cnt, Nat.zero_add]
    · rw [if_neg c1]
      by_cases c2 : c + r2.1 = acc.1
      · rw [if_pos c2]
        refine ⟨?_, ?_, fun e => (ne e).elim, fun _ => List.mem_append.2 (.inr (c2 ▸ hin))⟩
        · intro x hx
          rcases List.mem_append.1 hx with hx | hx
          · exact h.le x hx
          · have := hge x hx; simp only; omega
        · simp only
          rw [List.count_append, ← h.cnt, ← c2, hsh, h2.cnt]
      · rw [if_neg c2]
        have hL : L ≠ [] := fun e => by have := h.nil e; omega
        refine ⟨?_, ?_, fun e => (ne e).elim, fun _ => List.mem_append.2 (.inl (h.mem hL))⟩
        · intro x hx
          rcases List.mem_append.1 hx with hx | hx
          · exact h.le x hx
          · have := hge x hx; omega
        · rw [List.count_append, ← h.cnt, count_zero (L2.map (c + ·)) _ (fun hx => by have := hge _ hx; omega), Nat.add_zero]

/-! ### What a path costs -/
def restC (P : List (Nat × Nat)) (done : Nat) : Nat := P.countP fun p => !done.testBit p.1
theorem restC_le (P : List (Nat × Nat)) (done : Nat) : restC P done ≤ P.length := List.countP_le_length
theorem restC_next (P : List (Nat × Nat)) (done f : Nat) (hb : done.testBit f = false) : costN P f done + restC P (done ||| 2 ^ f) ≤ restC P done := by
  induction P with
  | nil => simp [costN, restC]
  | cons p P ih =>
    unfold costN restC at *
    rw [List.countP_cons, List.countP_cons, List.countP_cons, or_bit]
    generalize (P.countP fun p => p.1 == f && done.testBit p.2) = x1 at *
    generalize (P.countP fun p => !(done ||| 2 ^ f).testBit p.1) = x2 at *
    generalize (P.countP fun p => !done.testBit p.1) = x3 at *
    by_cases c : p.1 = f
    · subst c
      simp [hb]
      split <;> omega
    · have e1 : (p.1 == f) = false := by simpa using c
      have e2 : decide (f = p.1) = false := by simpa using fun e : f = p.1 => c e.symm
      simp only [e1, e2, Bool.false_and, Bool.or_false]
      simp
      omega
theorem pathC_le (may : Nat → Nat → Bool) (P : List (Nat × Nat)) (n : Nat) : ∀ (u done : Nat) (o : List Nat), o ∈ compsU may n u done → pathC P done o ≤ restC P done
  | 0, done, o, h => by
    simp only [compsU, List.mem_singleton] at h
    subst h; simp [pathC]
  | u + 1, done, o, h => by
    simp only [compsU, List.mem_flatMap] at h
    obtain ⟨f, hf, ho⟩ := h
    split at ho
    · simp at ho
    · rename_i hb
      obtain ⟨r, hr, rfl⟩ := List.mem_map.1 ho
      have := pathC_le may P n u _ r hr
      have hb : done.testBit f = false := by
        cases c : done.testBit f
        · rfl
        · simp [c] at hb
      have := restC_next P done f hb
      rw [pathC]; omega
/-- The table tells the least cost, and how many have it. -/
theorem fwU_min (may : Nat → Nat → Bool) (P : List (Nat × Nat)) (hP : P.length ≤ 12) (n : Nat) : ∀ (u done : Nat), IsMin ((compsU may n u done).map (pathC P done)) (fwU may P n u done)
  | 0, done => by
    refine ⟨?_, ?_, ?_, ?_⟩ <;> simp [compsU, fwU, pathC]
  | u + 1, done => by
    rw [compsU, fwU, List.map_flatMap]
    have key : ∀ (l : List Nat), IsMin (l.flatMap fun f => (if done.testBit f || !may f done then [] else (compsU may n u (done ||| 2 ^ f)).map (f :: ·)).map (pathC P done)) (l.foldl (fstep may P done (fwU may P n u)) (13, 0)) := by
      intro l
      rw [← List.reverse_reverse l]
      generalize l.reverse = k
      induction k with
      | nil => exact ⟨by simp, rfl, fun _ => rfl, by simp⟩
      | cons f k ih =>
        rw [List.reverse_cons, List.foldl_append, List.flatMap_append, List.foldl_cons, List.foldl_nil, List.flatMap_singleton]
        generalize k.reverse.foldl (fstep may P done (fwU may P n u)) (13, 0) = acc at *
        by_cases hb : (done.testBit f || !may f done) = true
        · rw [if_pos hb]
          have : fstep may P done (fwU may P n u) acc f = acc := by unfold fstep; rw [if_pos hb]
          rw [this, List.map_nil, List.append_nil]
          exact ih
        · have hs : fstep may P done (fwU may P n u) acc f = if costN P f done + (fwU may P n u (done ||| 2 ^ f)).1 < acc.1 then (costN P f done + (fwU may P n u (done ||| 2 ^ f)).1, (fwU may P n u (done ||| 2 ^ f)).2)
              else if costN P f done + (fwU may P n u (done ||| 2 ^ f)).1 = acc.1 then (acc.1, acc.2 + (fwU may P n u (done ||| 2 ^ f)).2) else acc := by unfold fstep; rw [if_neg hb]
          rw [if_neg hb, hs]
          have hbit : done.testBit f = false := by
            cases c : done.testBit f
            · rfl
            · simp [c] at hb
          have hm : ((compsU may n u (done ||| 2 ^ f)).map (f :: ·)).map (pathC P done) = ((compsU may n u (done ||| 2 ^ f)).map (pathC P (done ||| 2 ^ f))).map (costN P f done + ·) := by
            rw [List.map_map, List.map_map]; rfl
          rw [hm]
          refine isMin_step _ _ _ _ _ ih (fwU_min may P hP n u (done ||| 2 ^ f)) ?_ ?_
          · intro x hx
            obtain ⟨g, _, hx⟩ := List.mem_flatMap.1 hx
            obtain ⟨o, ho, rfl⟩ := List.mem_map.1 hx
            split at ho
            · simp at ho
            · rename_i hg
              obtain ⟨r, hr, rfl⟩ := List.mem_map.1 ho
              have h1 := pathC_le may P n u _ r hr
              have hgb : done.testBit g = false := by
                cases c : done.testBit g
                · rfl
                · simp [c] at hg
              have h2 := restC_next P done g hgb
              have h3 := restC_le P done
              rw [pathC]; omega
          · intro x hx
            obtain ⟨r, hr, rfl⟩ := List.mem_map.1 hx
            have h1 := pathC_le may P n u _ r hr
            have h2 := restC_next P done f hbit
            have h3 := restC_le P done
            omega
    exact key (List.range n)
end Go.Am.Ring

