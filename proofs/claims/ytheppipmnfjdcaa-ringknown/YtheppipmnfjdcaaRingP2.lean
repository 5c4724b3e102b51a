import Derived.Test.YtheppipmnfjdcaaRingP1
import Derived.Test.YtheppipmnfjdcaaRingC6
/-
  Forms and finds, in plain: all orders; the table tells their least cost, how many have it, and the first one.
-/
set_option linter.unusedVariables false
set_option linter.unusedSimpArgs false
namespace Go.Am.Ring

def pathC (P : List (Nat × Nat)) : Nat → List Nat → Nat
  | _, [] => 0
  | done, f :: r => costN P f done + pathC P (done ||| 2 ^ f) r
def compsU (may : Nat → Nat → Bool) (n : Nat) : Nat → Nat → List (List Nat)
  | 0, _ => [[]]
  | u + 1, done => (List.range n).flatMap fun f => if done.testBit f || !may f done then [] else (compsU may n u (done ||| 2 ^ f)).map (f :: ·)

/-! ### The least of some numbers, and how often it is there -/
structure IsMin (L : List Nat) (r : Nat × Nat) : Prop where
  le : ∀ x ∈ L, r.1 ≤ x
  cnt : r.2 = L.count r.1
  nil : L = [] → r.1 = 13
  mem : L ≠ [] → r.1 ∈ L
theorem count_shift (c m : Nat) : ∀ (L : List Nat), (L.map (c + ·)).count (c + m) = L.count m
  | [] => rfl
  | a :: L => by
    rw [List.map_cons, List.count_cons, List.count_cons, count_shift c m L]
    congr 1
    by_cases h : a = m
    · subst h; simp
    · have : ¬ c + a = c + m := by omega
      simp [h, this]
theorem count_zero (L : List Nat) (m : Nat) (h : m ∉ L) : L.count m = 0 := List.count_eq_zero.2 h
theorem isMin_step (c : Nat) (L L2 : List Nat) (acc r2 : Nat × Nat) (h : IsMin L acc) (h2 : IsMin L2 r2) (hb : ∀ x ∈ L, x ≤ 12) (hb2 : ∀ x ∈ L2, c + x ≤ 12) :
    IsMin (L ++ L2.map (c + ·)) (if c + r2.1 < acc.1 then (c + r2.1, r2.2) else if c + r2.1 = acc.1 then (acc.1, acc.2 + r2.2) else acc) := by
  have ha : acc.1 ≤ 13 := by
    by_cases e : L = []
    · rw [h.nil e]; omega
    · have := hb _ (h.mem e); omega
  by_cases e2 : L2 = []
  · subst e2
    have hr := h2.nil rfl
    have hr2 : r2.2 = 0 := by rw [h2.cnt]; rfl
    rw [if_neg (by omega)]
    simp only [List.map_nil, List.append_nil, hr2, Nat.add_zero]
    split
    · exact h
    · exact h
  · have hm := h2.mem e2
    have hc := hb2 _ hm
    have hsh := count_shift c r2.1 L2
    have ne : L ++ L2.map (c + ·) = [] → False := by simp [e2]
    have hin : c + r2.1 ∈ L2.map (c + ·) := List.mem_map.2 ⟨_, hm, rfl⟩
    have hge : ∀ y ∈ L2.map (c + ·), c + r2.1 ≤ y := by
      intro y hy
      obtain ⟨x, hx, rfl⟩ := List.mem_map.1 hy
      have := h2.le x hx
      omega
    by_cases c1 : c + r2.1 < acc.1
    · rw [if_pos c1]
      refine ⟨?_, ?_, fun e => (ne e).elim, fun _ => List.mem_append.2 (.inr hin)⟩
      · intro x hx
        rcases List.mem_append.1 hx with hx | hx
        · have := h.le x hx; simp only; omega
        · exact hge x hx
      · simp only
        rw [List.count_append, hsh, count_zero L _ (fun hx => by have := h.le _ hx; omega), h2.cnt, Nat.zero_add]
    · rw [if_neg c1]
      by_cases c2 : c + r2.1 = acc.1
      · rw [if_pos c2]
        refine ⟨?_, ?_, fun e => (ne e).elim, fun _ => List.mem_append.2 (.inr (c2 ▸ hin))⟩
        · intro x hx
          rcases List.mem_append.1 hx with hx | hx
          · exact h.le x hx
          · have := hge x hx; simp only; omega
        · simp only
          rw [List.count_append, ← h.cnt, ← c2, hsh, h2.cnt]
      · rw [if_neg c2]
        have hL : L ≠ [] := fun e => by have := h.nil e; omega
        refine ⟨?_, ?_, fun e => (ne e).elim, fun _ => List.mem_append.2 (.inl (h.mem hL))⟩
        · intro x hx
          rcases List.mem_append.1 hx with hx | hx
          · exact h.le x hx
          · have := hge x hx; omega
        · rw [List.count_append, ← h.cnt, count_zero (L2.map (c + ·)) _ (fun hx => by have := hge _ hx; omega), Nat.add_zero]

/-! ### What a path costs -/
def restC (P : List (Nat × Nat)) (done : Nat) : Nat := P.countP fun p => !done.testBit p.1
theorem restC_le (P : List (Nat × Nat)) (done : Nat) : restC P done ≤ P.length := List.countP_le_length
theorem restC_next (P : List (Nat × Nat)) (done f : Nat) (hb : done.testBit f = false) : costN P f done + restC P (done ||| 2 ^ f) ≤ restC P done := by
  induction P with
  | nil => simp [costN, restC]
  | cons p P ih =>
    unfold costN restC at *
    rw [List.countP_cons, List.countP_cons, List.countP_cons, or_bit]
    generalize (P.countP fun p => p.1 == f && done.testBit p.2) = x1 at *
    generalize (P.countP fun p => !(done ||| 2 ^ f).testBit p.1) = x2 at *
    generalize (P.countP fun p => !done.testBit p.1) = x3 at *
    by_cases c : p.1 = f
    · subst c
      simp [hb]
      split <;> omega
    · have e1 : (p.1 == f) = false := by simpa using c
      have e2 : decide (f = p.1) = false := by simpa using fun e : f = p.1 => c e.symm
      simp only [e1, e2, Bool.false_and, Bool.or_false]
      simp
      omega
theorem pathC_le (may : Nat → Nat → Bool) (P : List (Nat × Nat)) (n : Nat) : ∀ (u done : Nat) (o : List Nat), o ∈ compsU may n u done → pathC P done o ≤ restC P done
  | 0, done, o, h => by
    simp only [compsU, List.mem_singleton] at h
    subst h; simp [pathC]
  | u + 1, done, o, h => by
    simp only [compsU, List.mem_flatMap] at h
    obtain ⟨f, hf, ho⟩ := h
    split at ho
    · simp at ho
    · rename_i hb
      obtain ⟨r, hr, rfl⟩ := List.mem_map.1 ho
      have := pathC_le may P n u _ r hr
      have hb : done.testBit f = false := by
        cases c : done.testBit f
        · rfl
        · simp [c] at hb
      have := restC_next P done f hb
      rw [pathC]; omega
/-- The table tells the least cost, and how many have it. -/
theorem fwU_min (may : Nat → Nat → Bool) (P : List (Nat × Nat)) (hP : P.length ≤ 12) (n : Nat) : ∀ (u done : Nat), IsMin ((compsU may n u done).map (pathC P done)) (fwU may P n u done)
  | 0, done => by
    refine ⟨?_, ?_, ?_, ?_⟩ <;> simp [compsU, fwU, pathC]
  | u + 1, done => by
    rw [compsU, fwU, List.map_flatMap]
    have key : ∀ (l : List Nat), IsMin (l.flatMap fun f => (if done.testBit f || !may f done then [] else (compsU may n u (done ||| 2 ^ f)).map (f :: ·)).map (pathC P done)) (l.foldl (fstep may P done (fwU may P n u)) (13, 0)) := by
      intro l
      rw [← List.reverse_reverse l]
      generalize l.reverse = k
      induction k with
      | nil => exact ⟨by simp, rfl, fun _ => rfl, by simp⟩
      | cons f k ih =>
        rw [List.reverse_cons, List.foldl_append, List.flatMap_append, List.foldl_cons, List.foldl_nil, List.flatMap_singleton]
        generalize k.reverse.foldl (fstep may P done (fwU may P n u)) (13, 0) = acc at *
        by_cases hb : (done.testBit f || !may f done) = true
        · rw [if_pos hb]
          have : fstep may P done (fwU may P n u) acc f = acc := by unfold fstep; rw [if_pos hb]
          rw [this, List.map_nil, List.append_nil]
          exact ih
        · have hs : fstep may P done (fwU may P n u) acc f = if costN P f done + (fwU may P n u (done ||| 2 ^ f)).1 < acc.1 then (costN P f done + (fwU may P n u (done ||| 2 ^ f)).1, (fwU may P n u (done ||| 2 ^ f)).2)
              else if costN P f done + (fwU may P n u (done ||| 2 ^ f)).1 = acc.1 then (acc.1, acc.2 + (fwU may P n u (done ||| 2 ^ f)).2) else acc := by unfold fstep; rw [if_neg hb]
          rw [if_neg hb, hs]
          have hbit : done.testBit f = false := by
            cases c : done.testBit f
            · rfl
            · simp [c] at hb
          have hm : ((compsU may n u (done ||| 2 ^ f)).map (f :: ·)).map (pathC P done) = ((compsU may n u (done ||| 2 ^ f)).map (pathC P (done ||| 2 ^ f))).map (costN P f done + ·) := by
            rw [List.map_map, List.map_map]; rfl
          rw [hm]
          refine isMin_step _ _ _ _ _ ih (fwU_min may P hP n u (done ||| 2 ^ f)) ?_ ?_
          · intro x hx
            obtain ⟨g, _, hx⟩ := List.mem_flatMap.1 hx
            obtain ⟨o, ho, rfl⟩ := List.mem_map.1 hx
            split at ho
            · simp at ho
            · rename_i hg
              obtain ⟨r, hr, rfl⟩ := List.mem_map.1 ho
              have h1 := pathC_le may P n u _ r hr
              have hgb : done.testBit g = false := by
                cases c : done.testBit g
                · rfl
                · simp [c] at hg
              have h2 := restC_next P done g hgb
              have h3 := restC_le P done
              rw [pathC]; omega
          · intro x hx
            obtain ⟨r, hr, rfl⟩ := List.mem_map.1 hx
            have h1 := pathC_le may P n u _ r hr
            have h2 := restC_next P done f hbit
            have h3 := restC_le P done
            omega
    exact key (List.range n)
end Go.Am.Ring

/-
  Forms and finds, in plain: what an order contradicts is what its path costs; the first of the best orders; orders that put one form behind another.
-/
set_option linter.unusedVariables false
set_option linter.unusedSimpArgs false
namespace Go.Am.Ring

abbrev ci (l : List Nat) : List Int := l.map fun x : Nat => (x : Int)
/-- Where a form is in an order. -/
def pos (o : List Nat) (x : Nat) : Int := plc (ci o) (x : Int)
/-! ### All orders -/
theorem comps_ok (may : Nat → Nat → Bool) (n : Nat) : ∀ (u done : Nat), leftN n done = u → ∀ o ∈ compsU may n u done, o.Nodup ∧ o.length = u ∧ (∀ x ∈ o, x < n ∧ done.testBit x = false) ∧ (∀ x, x < n → x ∈ o ∨ done.testBit x = true)
  | 0, done, hu, o, ho => by
    simp only [compsU, List.mem_singleton] at ho
    subst ho
    refine ⟨List.nodup_nil, rfl, by simp, fun x hx => .inr ?_⟩
    unfold leftN at hu
    rw [List.countP_eq_zero] at hu
    have := hu x (List.mem_range.2 hx)
    simpa using this
  | u + 1, done, hu, o, ho => by
    simp only [compsU, List.mem_flatMap] at ho
    obtain ⟨f, hf, ho⟩ := ho
    have hf := List.mem_range.1 hf
    split at ho
    · simp at ho
    · rename_i hb
      obtain ⟨r, hr, rfl⟩ := List.mem_map.1 ho
      have hb : done.testBit f = false := by
        cases c : done.testBit f
        · rfl
        · simp [c] at hb
      have hl := leftN_next done f hb n hf
      obtain ⟨h1, h2, h3, h4⟩ := comps_ok may n u (done ||| 2 ^ f) (by omega) r hr
      have h5 : ∀ x ∈ r, done.testBit x = false ∧ ¬ f = x := by
        intro x hx
        have := (h3 x hx).2
        rw [or_bit] at this
        simpa using this
      refine ⟨List.nodup_cons.2 ⟨fun c => (h5 f c).2 rfl, h1⟩, by simp [h2], ?_, ?_⟩
      · intro x hx
        rcases List.mem_cons.1 hx with rfl | hx
        · exact ⟨hf, hb⟩
        · exact ⟨(h3 x hx).1, (h5 x hx).1⟩
      · intro x hx
        rcases h4 x hx with h | h
        · exact .inl (by simp [h])
        · rw [or_bit] at h
          by_cases c : f = x
          · exact .inl (by simp [c])
          · right; simpa [c] using h
theorem leftN_none (n : Nat) : leftN n 0 = n := by
  unfold leftN
  rw [List.countP_eq_length.2 (by simp), List.length_range]
theorem ords_ne (n : Nat) : ∀ (u done : Nat), leftN n done = u → compsU anyM n u done ≠ []
  | 0, done, _ => by simp [compsU]
  | u + 1, done, hu => by
    have hne : leftN n done ≠ 0 := by omega
    unfold leftN at hne
    rw [Ne, List.countP_eq_zero] at hne
    have ⟨f, hf⟩ : ∃ f, f < n ∧ done.testBit f = false := by
      apply Classical.byContradiction
      intro c
      apply hne
      intro x hx
      cases hb : done.testBit x
      · exact absurd ⟨x, List.mem_range.1 hx, hb⟩ c
      · simp
    have ih := ords_ne n u (done ||| 2 ^ f) (by have := leftN_next done f hf.2 n hf.1; omega)
    intro c
    rw [compsU, List.flatMap_eq_nil_iff] at c
    have := c f (List.mem_range.2 hf.1)
    simp [hf.2, anyM] at this
    exact ih this
/-- The first of the best orders, step by step. -/
def gre (P : List (Nat × Nat)) (n : Nat) : Nat → Nat → List Nat
  | 0, _ => []
  | u + 1, done => match (List.range n).find? fun f => !done.testBit f && decide (costN P f done + (fwD anyM P n (done ||| 2 ^ f)).1 = (fwD anyM P n done).1) with
    | some f => f :: gre P n u (done ||| 2 ^ f)
    | none => []
theorem find_map {α β : Type} (g : α → β) (p : β → Bool) : ∀ l : List α, (l.map g).find? p = (l.find? (fun a => p (g a))).map g
  | [] => rfl
  | a :: l => by
    rw [List.map_cons, List.find?_cons, List.find?_cons]
    cases p (g a)
    · exact find_map g p l
    · rfl
theorem gre_first (P : List (Nat × Nat)) (hP : P.length ≤ 12) (n : Nat) : ∀ (u done : Nat), leftN n done = u → (compsU anyM n u done).find? (fun o => decide (pathC P done o = (fwD anyM P n done).1)) = some (gre P n u done)
  | 0, done, hu => by
    simp [compsU, gre, pathC, fwD, hu, fwU]
  | u + 1, done, hu => by
    have hmin := fwU_min anyM P hP n (u + 1) done
    have hne := ords_ne n (u + 1) done hu
    have e : fwD anyM P n done = fwU anyM P n (u + 1) done := by unfold fwD; rw [hu]
    rw [e]
    -- one form
    have one : ∀ f, f < n → done.testBit f = false → ((compsU anyM n u (done ||| 2 ^ f)).map (f :: ·)).find? (fun o => decide (pathC P done o = (fwU anyM P n (u + 1) done).1)) =
        if costN P f done + (fwD anyM P n (done ||| 2 ^ f)).1 = (fwU anyM P n (u + 1) done).1 then some (f :: gre P n u (done ||| 2 ^ f)) else none := by
      intro f hf hb
      have hl := leftN_next done f hb n hf
      have ih := gre_first P hP n u (done ||| 2 ^ f) (by omega)
      have hm2 := fwU_min anyM P hP n u (done ||| 2 ^ f)
      have e2 : fwD anyM P n (done ||| 2 ^ f) = fwU anyM P n u (done ||| 2 ^ f) := by unfold fwD; rw [show leftN n (done ||| 2 ^ f) = u by omega]
      rw [e2] at ih ⊢
      rw [find_map]
      by_cases c : costN P f done + (fwU anyM P n u (done ||| 2 ^ f)).1 = (fwU anyM P n (u + 1) done).1
      · rw [if_pos c, ← c]
        have : (fun a => decide (pathC P done (f :: a) = costN P f done + (fwU anyM P n u (done ||| 2 ^ f)).1)) = fun a => decide (pathC P (done ||| 2 ^ f) a = (fwU anyM P n u (done ||| 2 ^ f)).1) := by
          funext a
          rw [decide_eq_decide, pathC]
          omega
        rw [this, ih]
        rfl
      · rw [if_neg c]
        rw [Option.map_eq_none_iff, List.find?_eq_none]
        intro r hr
        simp only [decide_eq_true_eq]
        intro hc
        rw [pathC] at hc
        have h1 := hm2.le _ (List.mem_map.2 ⟨r, hr, rfl⟩)
        have h2 : (fwU anyM P n (u + 1) done).1 ≤ costN P f done + (fwU anyM P n u (done ||| 2 ^ f)).1 := by
          have hne2 := ords_ne n u (done ||| 2 ^ f) (by omega)
          have h3 := hm2.mem (by simpa using hne2)
          obtain ⟨s, hs, hs2⟩ := List.mem_map.1 h3
          rw [← hs2]
          refine hmin.le _ (List.mem_map.2 ⟨f :: s, ?_, rfl⟩)
          rw [compsU, List.mem_flatMap]
          exact ⟨f, List.mem_range.2 hf, by simp [hb, anyM]; exact hs⟩
        omega
    have hsome : ∃ o ∈ compsU anyM n (u + 1) done, pathC P done o = (fwU anyM P n (u + 1) done).1 := by
      obtain ⟨o, ho, he⟩ := List.mem_map.1 (hmin.mem (by simpa using hne))
      exact ⟨o, ho, he⟩
    have hfs : (compsU anyM n (u + 1) done).find? (fun o => decide (pathC P done o = (fwU anyM P n (u + 1) done).1)) =
        (List.range n).findSome? fun f => if (!done.testBit f && decide (costN P f done + (fwD anyM P n (done ||| 2 ^ f)).1 = (fwU anyM P n (u + 1) done).1)) then some (f :: gre P n u (done ||| 2 ^ f)) else none := by
      rw [compsU, List.find?_flatMap]
      have : ∀ l : List Nat, (∀ f ∈ l, f < n) → l.findSome? (fun x => List.find? (fun o => decide (pathC P done o = (fwU anyM P n (u + 1) done).1)) (if (done.testBit x || !anyM x done) = true then [] else (compsU anyM n u (done ||| 2 ^ x)).map (x :: ·))) =
          l.findSome? fun f => if (!done.testBit f && decide (costN P f done + (fwD anyM P n (done ||| 2 ^ f)).1 = (fwU anyM P n (u + 1) done).1)) then some (f :: gre P n u (done ||| 2 ^ f)) else none := by
        intro l
        induction l with
        | nil => intro _; rfl
        | cons f l ih =>
          intro hl
          rw [List.findSome?_cons, List.findSome?_cons, ih fun g hg => hl g (by simp [hg])]
          cases hb : done.testBit f
          · simp only [anyM, Bool.not_true, Bool.or_false, Bool.false_eq_true, if_false, Bool.not_false, Bool.true_and, decide_eq_true_eq]
            rw [one f (hl f (by simp)) hb]
          · simp
      exact this _ fun f hf => List.mem_range.1 hf
    have conv : ∀ l : List Nat, (l.findSome? fun f => if (!done.testBit f && decide (costN P f done + (fwD anyM P n (done ||| 2 ^ f)).1 = (fwU anyM P n (u + 1) done).1)) then some (f :: gre P n u (done ||| 2 ^ f)) else none) =
        (l.find? fun f => !done.testBit f && decide (costN P f done + (fwD anyM P n (done ||| 2 ^ f)).1 = (fwU anyM P n (u + 1) done).1)).map fun f => f :: gre P n u (done ||| 2 ^ f) := by
      intro l
      induction l with
      | nil => rfl
      | cons f l ih =>
        rw [List.findSome?_cons, List.find?_cons, ih]
        cases hq : (!done.testBit f && decide (costN P f done + (fwD anyM P n (done ||| 2 ^ f)).1 = (fwU anyM P n (u + 1) done).1)) <;> simp
    rw [hfs, conv, gre, e]
    cases hq : (List.range n).find? fun f => !done.testBit f && decide (costN P f done + (fwD anyM P n (done ||| 2 ^ f)).1 = (fwU anyM P n (u + 1) done).1) with
    | some f => rfl
    | none =>
      exfalso
      rw [conv, hq] at hfs
      obtain ⟨o, ho, he⟩ := hsome
      have := List.find?_eq_none.1 hfs o ho
      simp [he] at this
end Go.Am.Ring

/-
  What functions of chapter 04 compute, 7: the reference's lists of orders.
-/
set_option linter.unusedVariables false
set_option linter.unusedSimpArgs false
set_option maxRecDepth 10000
namespace Go.Am.Ring
open Go.Am.G

def mk : List Nat → Nat
  | [] => 0
  | x :: r => mk r ||| 2 ^ x
end Go.Am.Ring


