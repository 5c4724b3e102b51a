import Derived.Test.YtheppipmnfjdcaaRingP1
import Derived.Test.YtheppipmnfjdcaaRingC6
/-
  Forms and finds, in plain: all orders; the table tells their least cost, how many have it, and the first one.
-/
set_option linter.unusedVariables false
set_option linter.unusedSimpArgs false
namespace Go.Am.Ring

def pathC (P : List (Nat × Nat)) : Nat → List Nat → Nat
  | _, [] => 0
  | done, f :: r => costN P f done + pathC P (done ||| 2 ^ f) r
def compsU (may : Nat → Nat → Bool) (n : Nat) : Nat → Nat → List (List Nat)
  | 0, _ => [[]]
  | u + 1, done => (List.range n).flatMap fun f => if done.testBit f || !may f done then [] else (compsU may n u (done ||| 2 ^ f)).map (f :: ·)

/-! ### The least of some numbers, and how often it is there -/
structure IsMin (L : List Nat) (r : Nat × Nat) : Prop where
  le : ∀ x ∈ L, r.1 ≤ x
  cnt : r.2 = L.count r.1
  nil : L = [] → r.1 = 13
  mem : L ≠ [] → r.1 ∈ L
theorem count_shift (c m : Nat) : ∀ (L : List Nat), (L.map (c + ·)).count (c + m) = L.count m
  | [] => rfl
  | a :: L => by
    rw [List.map_cons, List.count_cons, List.count_cons, count_shift c m L]
    congr 1
    by_cases h : a = m
    · subst h; simp
    · have : ¬ c + a = c + m := by omega
      simp [h, this]
theorem count_zero (L : List Nat) (m : Nat) (h : m ∉ L) : L.count m = 0 := List.count_eq_zero.2 h
theorem isMin_step (c : Nat) (L L2 : List Nat) (acc r2 : Nat × Nat) (h : IsMin L acc) (h2 : IsMin L2 r2) (hb : ∀ x ∈ L, x ≤ 12) (hb2 : ∀ x ∈ L2, c + x ≤ 12) :
    IsMin (L ++ L2.map (c + ·)) (if c + r2.1 < acc.1 then (c + r2.1, r2.2) else if c + r2.1 = acc.1 then (acc.1, acc.2 + r2.2) else acc) := by
  have ha : acc.1 ≤ 13 := by
    by_cases e : L = []
    · rw [h.nil e]; omega
    · have := hb _ (h.mem e); omega
  by_cases e2 : L2 = []
  · subst e2
    have hr := h2.nil rfl
    have hr2 : r2.2 = 0 := by rw [h2.cnt]; rfl
    rw [if_neg (by omega)]
    simp only [List.map_nil, List.append_nil, hr2, Nat.add_zero]
    split
    · exact h
    · exact h
  · have hm := h2.mem e2
    have hc := hb2 _ hm
    have hsh := count_shift c r2.1 L2
    have ne : L ++ L2.map (c + ·) = [] → False := by simp [e2]
    have hin : c + r2.1 ∈ L2.map (c + ·) := List.mem_map.2 ⟨_, hm, rfl⟩
    have hge : ∀ y ∈ L2.map (c + ·), c + r2.1 ≤ y := by
      intro y hy
      obtain ⟨x, hx, rfl⟩ := List.mem_map.1 hy
      have := h2.le x hx
      omega
    by_cases c1 : c + r2.1 < acc.1
    · rw [if_pos c1]
      refine ⟨?_, ?_, fun e => (ne e).elim, fun _ => List.mem_append.2 (.inr hin)⟩
      · intro x hx
        rcases List.mem_append.1 hx with hx | hx
        · have := h.le x hx; simp only; omega
        · exact hge x hx
      · simp only
        rw [List.count_append, hsh, count_zero L _ (fun hx => by have := h.le _ hx; omega), h2.cnt, Nat.zero_add]
    · rw [if_neg c1]
      by_cases c2 : c + r2.1 = acc.1
      · rw [if_pos c2]
        refine ⟨?_, ?_, fun e => (ne e).elim, fun _ => List.mem_append.2 (.inr (c2 ▸ hin))⟩
        · intro x hx
          rcases List.mem_append.1 hx with hx | hx
          · exact h.le x hx
          · have := hge x hx; simp only; omega
        · simp only
          rw [List.count_append, ← h.cnt, ← c2, hsh, h2.cnt]
      · rw [if_neg c2]
        have hL : L ≠ [] := fun e => by have := h.nil e; omega
        refine ⟨?_, ?_, fun e => (ne e).elim, fun _ => List.mem_append.2 (.inl (h.mem hL))⟩
        · intro x hx
          rcases List.mem_append.1 hx with hx | hx
          · exact h.le x hx
          · have := hge x hx; omega
        · rw [List.count_append, ← h.cnt, count_zero (L2.map (c + ·)) _ (fun hx => by have := hge _ hx; omega), Nat.add_zero]

/-! ### What a path costs -/
def restC (P : List (Nat × Nat)) (done : Nat) : Nat := P.countP fun p => !done.testBit p.1
theorem restC_le (P : List (Nat × Nat)) (done : Nat) : restC P done ≤ P.length := List.countP_le_length
theorem restC_next (P : List (Nat × Nat)) (done f : Nat) (hb : done.testBit f = false) : costN P f done + restC P (done ||| 2 ^ f) ≤ restC P done := by
  induction P with
  | nil => simp [costN, restC]
  | cons p P ih =>
    unfold costN restC at *
    rw [List.countP_cons, List.countP_cons, List.countP_cons, or_bit]
    generalize (P.countP fun p => p.1 == f && done.testBit p.2) = x1 at *
    generalize (P.countP fun p => !(done ||| 2 ^ f).testBit p.1) = x2 at *
    generalize (P.countP fun p => !done.testBit p.1) = x3 at *
    by_cases c : p.1 = f
    · subst c
      simp [hb]
      split <;> omega
    · have e1 : (p.1 == f) = false := by simpa using c
      have e2 : decide (f = p.1) = false := by simpa using fun e : f = p.1 => c e.symm
      simp only [e1, e2, Bool.false_and, Bool.or_false]
      simp
      omega
theorem pathC_le (may : Nat → Nat → Bool) (P : List (Nat × Nat)) (n : Nat) : ∀ (u done : Nat) (o : List Nat), o ∈ compsU may n u done → pathC P done o ≤ restC P done
  | 0, done, o, h => by
    simp only [compsU, List.mem_singleton] at h
    subst h; simp [pathC]
  | u + 1, done, o, h => by
    simp only [compsU, List.mem_flatMap] at h
    obtain ⟨f, hf, ho⟩ := h
    split at ho
    · simp at ho
    · rename_i hb
      obtain ⟨r, hr, rfl⟩ := List.mem_map.1 ho
      have := pathC_le may P n u _ r hr
      have hb : done.testBit f = false := by
        cases c : done.testBit f
        · rfl
        · simp [c] at hb
      have := restC_next P done f hb
      rw [pathC]; omega
/-- The table tells the least cost, and how many have it. -/
theorem fwU_min (may : Nat → Nat → Bool) (P : List (Nat × Nat)) (hP : P.length ≤ 12) (n : Nat) : ∀ (u done : Nat), IsMin ((compsU may n u done).map (pathC P done)) (fwU may P n u done)
  | 0, done => by
    refine ⟨?_, ?_, ?_, ?_⟩ <;> simp [compsU, fwU, pathC]
  | u + 1, done => by
    rw [compsU, fwU, List.map_flatMap]
    have key : ∀ (l : List Nat), IsMin (l.flatMap fun f => (if done.testBit f || !may f done then [] else (compsU may n u (done ||| 2 ^ f)).map (f :: ·)).map (pathC P done)) (l.foldl (fstep may P done (fwU may P n u)) (13, 0)) := by
      intro l
      rw [← List.reverse_reverse l]
      generalize l.reverse = k
      induction k with
      | nil => exact ⟨by simp, rfl, fun _ => rfl, by simp⟩
      | cons f k ih =>
        rw [List.reverse_cons, List.foldl_append, List.flatMap_append, List.foldl_cons, List.foldl_nil, List.flatMap_singleton]
        generalize k.reverse.foldl (fstep may P done (fwU may P n u)) (13, 0) = acc at *
        by_cases hb : (done.testBit f || !may f done) = true
        · rw [if_pos hb]
          have : fstep may P done (fwU may P n u) acc f = acc := by unfold fstep; rw [if_pos hb]
          rw [this, List.map_nil, List.append_nil]
          exact ih
        · have hs : fstep may P done (fwU may P n u) acc f = if costN P f done + (fwU may P n u (done ||| 2 ^ f)).1 < acc.1 then (costN P f done + (fwU may P n u (done ||| 2 ^ f)).1, (fwU may P n u (done ||| 2 ^ f)).2)
              else if costN P f done + (fwU may P n u (done ||| 2 ^ f)).1 = acc.1 then (acc.1, acc.2 + (fwU may P n u (done ||| 2 ^ f)).2) else acc := by unfold fstep; rw [if_neg hb]
          rw [if_neg hb, hs]
          have hbit : done.testBit f = false := by
            cases c : done.testBit f
            · rfl
            · simp [c] at hb
          have hm : ((compsU may n u (done ||| 2 ^ f)).map (f :: ·)).map (pathC P done) = ((compsU may n u (done ||| 2 ^ f)).map (pathC P (done ||| 2 ^ f))).map (costN P f done + ·) := by
            rw [List.map_map, List.map_map]; rfl
          rw [hm]
          refine isMin_step _ _ _ _ _ ih (fwU_min may P hP n u (done ||| 2 ^ f)) ?_ ?_
          · intro x hx
            obtain ⟨g, _, hx⟩ := List.mem_flatMap.1 hx
            obtain ⟨o, ho, rfl⟩ := List.mem_map.1 hx
            split at ho
            · simp at ho
            · rename_i hg
              obtain ⟨r, hr, rfl⟩ := List.mem_map.1 ho
              have h1 := pathC_le may P n u _ r hr
              have hgb : done.testBit g = false := by
                cases c : done.testBit g
                · rfl
                · simp [c] at hg
              have h2 := restC_next P done g hgb
              have h3 := restC_le P done
              rw [pathC]; omega
          · intro x hx
            obtain ⟨r, hr, rfl⟩ := List.mem_map.1 hx
            have h1 := pathC_le may P n u _ r hr
            have h2 := restC_next P done f hbit
            have h3 := restC_le P done
            omega
    exact key (List.range n)
end Go.Am.Ring

/-
  Forms and finds, in plain: what an order contradicts is what its path costs; the first of the best orders; orders that put one form behind another.
-/
set_option linter.unusedVariables false
set_option linter.unusedSimpArgs false
namespace Go.Am.Ring

abbrev ci (l : List Nat) : List Int := l.map fun x : Nat => (x : Int)
theorem ci_len (l : List Nat) : (ci l).length = l.length := by simp
theorem ci_mem (l : List Nat) (x : Nat) : (x : Int) ∈ ci l ↔ x ∈ l := by
  simp only [List.mem_map]
  constructor
  · rintro ⟨y, hy, e⟩
    have : y = x := by omega
    exact this ▸ hy
  · intro h; exact ⟨x, h, rfl⟩
/-- Where a form is in an order. -/
def pos (o : List Nat) (x : Nat) : Int := plc (ci o) (x : Int)
theorem plcG_shift (x : Int) : ∀ (l : List Int) (k : Nat), plcG x (k + 1) l = if x ∈ l then plcG x k l + 1 else -1
  | [], k => by simp [plcG]
  | a :: r, k => by
    have := plcG_shift x r (k + 1)
    rw [plcG, plcG]
    by_cases c : a = x
    · subst c; simp
    · rw [if_neg c, if_neg c, this]
      simp [Ne.symm c]
theorem pos_cons (f : Nat) (r : List Nat) (x : Nat) : pos (f :: r) x = if f = x then 0 else if x ∈ r then pos r x + 1 else -1 := by
  unfold pos plc
  rw [show ci (f :: r) = (f : Int) :: ci r from rfl, plcG]
  by_cases c : f = x
  · subst c; simp
  · rw [if_neg (by omega), if_neg c, plcG_shift]
    simp only [ci_mem]
theorem pos_mem (o : List Nat) (x : Nat) : 0 ≤ pos o x ↔ x ∈ o := by unfold pos; rw [plc_mem, ci_mem]
theorem pos_not (o : List Nat) (x : Nat) (h : x ∉ o) : pos o x = -1 := by
  have h1 : ¬ 0 ≤ pos o x := fun c => h ((pos_mem o x).1 c)
  have h2 := (plcG_lt (x : Int) (ci o) 0).1
  have h3 : pos o x = plcG (x : Int) 0 (ci o) := rfl
  omega
theorem pos_ge (o : List Nat) (x : Nat) : -1 ≤ pos o x := (plcG_lt (x : Int) (ci o) 0).1
def contr (P : List (Nat × Nat)) (o : List Nat) : Nat := P.countP fun p => decide (pos o p.2 < pos o p.1)
theorem agnF_length (o : List Nat) : ∀ (P : List (Nat × Nat)) (k : Nat), (agnF (ci o) k (P.map castP)).length = contr P o
  | [], k => rfl
  | p :: P, k => by
    have ih := agnF_length o P (k + 1)
    rw [List.map_cons, agnF]
    unfold contr at *
    rw [List.countP_cons]
    have e : plc (ci o) (castP p).2 < plc (ci o) (castP p).1 ↔ pos o p.2 < pos o p.1 := Iff.rfl
    by_cases c : pos o p.2 < pos o p.1
    · rw [if_pos (e.2 c), List.length_cons, ih]; simp [c]
    · rw [if_neg fun h => c (e.1 h), ih]; simp [c]
theorem contr_path (P : List (Nat × Nat)) : ∀ (r : List Nat) (done : Nat), r.Nodup → (∀ x ∈ r, done.testBit x = false) → (∀ p ∈ P, p.2 ∈ r ∨ done.testBit p.2 = true) → pathC P done r = contr P r
  | [], done, _, _, _ => by
    unfold contr
    rw [pathC, eq_comm, List.countP_eq_zero]
    intro p _
    simp [pos_not]
  | f :: r, done, hn, hd, hp => by
    have hf := hd f (by simp)
    obtain ⟨hfr, hn⟩ := List.nodup_cons.1 hn
    rw [pathC, contr_path P r (done ||| 2 ^ f) hn]
    · clear hn
      unfold costN contr
      induction P with
      | nil => rfl
      | cons p P ih =>
        have ih := ih fun q hq => hp q (by simp [hq])
        have hp := hp p (by simp)
        rw [List.countP_cons, List.countP_cons, List.countP_cons, ← ih]
        have e : ((if (p.1 == f && done.testBit p.2) = true then 1 else 0) + if decide (pos r p.2 < pos r p.1) = true then 1 else 0) = if decide (pos (f :: r) p.2 < pos (f :: r) p.1) = true then 1 else 0 := by
          simp only [decide_eq_true_eq, pos_cons]
          have g1 := pos_ge r p.1
          have g2 := pos_ge r p.2
          have n1 := pos_not r p.1
          have n2 := pos_not r p.2
          have m1 := pos_mem r p.1
          have m2 := pos_mem r p.2
          clear ih
          by_cases c1 : f = p.1
          · have n0 := n1 (fun c => hfr (c1 ▸ c))
            have c1b : (p.1 == f) = true := by simp [c1]
            by_cases c2 : f = p.2
            · rw [if_pos c2, if_pos c1, n0]
              have hz : done.testBit p.2 = false := c2 ▸ hf
              simp [hz]
              omega
            · rw [if_pos c1, n0]
              by_cases c3 : p.2 ∈ r
              · have hz := hd p.2 (by simp [c3])
                have := m2.2 c3
                rw [if_neg c2, if_pos c3, hz, if_neg (show ¬ pos r p.2 + 1 < 0 by omega), if_neg (show ¬ pos r p.2 < -1 by omega)]
                simp
              · have hz : done.testBit p.2 = true := by
                  rcases hp with hp | hp
                  · simp [c3, Ne.symm c2] at hp
                  · exact hp
                have := n2 c3
                rw [if_neg c2, if_neg c3]
                simp [hz, c1]
                omega
          · have c1' : (p.1 == f) = false := by simp; omega
            simp only [c1', Bool.false_and, Bool.false_eq_true, if_false, Nat.zero_add, if_neg c1]
            by_cases c4 : p.1 ∈ r
            · have := m1.2 c4
              by_cases c2 : f = p.2
              · have h2 : p.2 ∉ r := c2 ▸ hfr
                have := n2 h2
                simp only [c2, if_true, c4]
                rw [if_pos (by omega), if_pos (by omega)]
              · simp only [c2, if_false, c4, if_true]
                by_cases c3 : p.2 ∈ r
                · simp only [c3, if_true]
                  congr 1
                  rw [eq_iff_iff]; omega
                · have := n2 c3
                  simp only [c3, if_false]
                  rw [if_pos (by omega), if_pos (by omega)]
            · have := n1 c4
              simp only [c4, if_false]
              rw [if_neg (by omega), if_neg (by split <;> first | omega | (split <;> omega))]
        omega
    · intro x hx
      rw [or_bit, hd x (by simp [hx])]
      have : ¬ f = x := fun e => hfr (e ▸ hx)
      simp [this]
    · intro p hq
      rcases hp p hq with h | h
      · rcases List.mem_cons.1 h with h | h
        · right; rw [or_bit, h]; simp
        · exact .inl h
      · right; rw [or_bit, h]; simp

/-! ### All orders -/
theorem comps_ok (may : Nat → Nat → Bool) (n : Nat) : ∀ (u done : Nat), leftN n done = u → ∀ o ∈ compsU may n u done, o.Nodup ∧ o.length = u ∧ (∀ x ∈ o, x < n ∧ done.testBit x = false) ∧ (∀ x, x < n → x ∈ o ∨ done.testBit x = true)
  | 0, done, hu, o, ho => by
    simp only [compsU, List.mem_singleton] at ho
    subst ho
    refine ⟨List.nodup_nil, rfl, by simp, fun x hx => .inr ?_⟩
    unfold leftN at hu
    rw [List.countP_eq_zero] at hu
    have := hu x (List.mem_range.2 hx)
    simpa using this
  | u + 1, done, hu, o, ho => by
    simp only [compsU, List.mem_flatMap] at ho
    obtain ⟨f, hf, ho⟩ := ho
    have hf := List.mem_range.1 hf
    split at ho
    · simp at ho
    · rename_i hb
      obtain ⟨r, hr, rfl⟩ := List.mem_map.1 ho
      have hb : done.testBit f = false := by
        cases c : done.testBit f
        · rfl
        · simp [c] at hb
      have hl := leftN_next done f hb n hf
      obtain ⟨h1, h2, h3, h4⟩ := comps_ok may n u (done ||| 2 ^ f) (by omega) r hr
      have h5 : ∀ x ∈ r, done.testBit x = false ∧ ¬ f = x := by
        intro x hx
        have := (h3 x hx).2
        rw [or_bit] at this
        simpa using this
      refine ⟨List.nodup_cons.2 ⟨fun c => (h5 f c).2 rfl, h1⟩, by simp [h2], ?_, ?_⟩
      · intro x hx
        rcases List.mem_cons.1 hx with rfl | hx
        · exact ⟨hf, hb⟩
        · exact ⟨(h3 x hx).1, (h5 x hx).1⟩
      · intro x hx
        rcases h4 x hx with h | h
        · exact .inl (by simp [h])
        · rw [or_bit] at h
          by_cases c : f = x
          · exact .inl (by simp [c])
          · right; simpa [c] using h
theorem leftN_none (n : Nat) : leftN n 0 = n := by
  unfold leftN
  rw [List.countP_eq_length.2 (by simp), List.length_range]
abbrev ords (n : Nat) : List (List Nat) := compsU anyM n n 0
theorem ords_ok {n : Nat} {o : List Nat} (h : o ∈ ords n) : o.Nodup ∧ o.length = n ∧ (∀ x ∈ o, x < n) ∧ (∀ x, x < n → x ∈ o) := by
  obtain ⟨h1, h2, h3, h4⟩ := comps_ok anyM n n 0 (leftN_none n) o h
  exact ⟨h1, h2, fun x hx => (h3 x hx).1, fun x hx => by simpa using h4 x hx⟩
theorem path_contr {n : Nat} {P : List (Nat × Nat)} (may : Nat → Nat → Bool) (hP : ∀ p ∈ P, p.2 < n) {o : List Nat} (h : o ∈ compsU may n n 0) : pathC P 0 o = contr P o := by
  obtain ⟨h1, h2, h3, h4⟩ := comps_ok may n n 0 (leftN_none n) o h
  refine contr_path P o 0 h1 (by simp) fun p hp => ?_
  have := h4 p.2 (hP p hp)
  simpa using this
/-- The fewest finds, and of how many orders. -/
theorem fw_min (may : Nat → Nat → Bool) {n : Nat} {P : List (Nat × Nat)} (G : Good n P) : IsMin ((compsU may n n 0).map (contr P)) (fwD may P n 0) := by
  have h := fwU_min may P G.le12 n n 0
  have e : (compsU may n n 0).map (contr P) = (compsU may n n 0).map (pathC P 0) := List.map_congr_left fun o ho => (path_contr may (fun p hp => (G.lt p hp).2) ho).symm
  rw [e]
  unfold fwD
  rw [leftN_none]
  exact h
theorem ords_ne (n : Nat) : ∀ (u done : Nat), leftN n done = u → compsU anyM n u done ≠ []
  | 0, done, _ => by simp [compsU]
  | u + 1, done, hu => by
    have hne : leftN n done ≠ 0 := by omega
    unfold leftN at hne
    rw [Ne, List.countP_eq_zero] at hne
    have ⟨f, hf⟩ : ∃ f, f < n ∧ done.testBit f = false := by
      apply Classical.byContradiction
      intro c
      apply hne
      intro x hx
      cases hb : done.testBit x
      · exact absurd ⟨x, List.mem_range.1 hx, hb⟩ c
      · simp
    have ih := ords_ne n u (done ||| 2 ^ f) (by have := leftN_next done f hf.2 n hf.1; omega)
    intro c
    rw [compsU, List.flatMap_eq_nil_iff] at c
    have := c f (List.mem_range.2 hf.1)
    simp [hf.2, anyM] at this
    exact ih this
/-- The first of the best orders, step by step. -/
def gre (P : List (Nat × Nat)) (n : Nat) : Nat → Nat → List Nat
  | 0, _ => []
  | u + 1, done => match (List.range n).find? fun f => !done.testBit f && decide (costN P f done + (fwD anyM P n (done ||| 2 ^ f)).1 = (fwD anyM P n done).1) with
    | some f => f :: gre P n u (done ||| 2 ^ f)
    | none => []
theorem find_map {α β : Type} (g : α → β) (p : β → Bool) : ∀ l : List α, (l.map g).find? p = (l.find? (fun a => p (g a))).map g
  | [] => rfl
  | a :: l => by
    rw [List.map_cons, List.find?_cons, List.find?_cons]
    cases p (g a)
    · exact find_map g p l
    · rfl
theorem gre_first (P : List (Nat × Nat)) (hP : P.length ≤ 12) (n : Nat) : ∀ (u done : Nat), leftN n done = u → (compsU anyM n u done).find? (fun o => decide (pathC P done o = (fwD anyM P n done).1)) = some (gre P n u done)
  | 0, done, hu => by
    simp [compsU, gre, pathC, fwD, hu, fwU]
  | u + 1, done, hu => by
    have hmin := fwU_min anyM P hP n (u + 1) done
    have hne := ords_ne n (u + 1) done hu
    have e : fwD anyM P n done = fwU anyM P n (u + 1) done := by unfold fwD; rw [hu]
    rw [e]
    -- one form
    have one : ∀ f, f < n → done.testBit f = false → ((compsU anyM n u (done ||| 2 ^ f)).map (f :: ·)).find? (fun o => decide (pathC P done o = (fwU anyM P n (u + 1) done).1)) =
        if costN P f done + (fwD anyM P n (done ||| 2 ^ f)).1 = (fwU anyM P n (u + 1) done).1 then some (f :: gre P n u (done ||| 2 ^ f)) else none := by
      intro f hf hb
      have hl := leftN_next done f hb n hf
      have ih := gre_first P hP n u (done ||| 2 ^ f) (by omega)
      have hm2 := fwU_min anyM P hP n u (done ||| 2 ^ f)
      have e2 : fwD anyM P n (done ||| 2 ^ f) = fwU anyM P n u (done ||| 2 ^ f) := by unfold fwD; rw [show leftN n (done ||| 2 ^ f) = u by omega]
      rw [e2] at ih ⊢
      rw [find_map]
      by_cases c : costN P f done + (fwU anyM P n u (done ||| 2 ^ f)).1 = (fwU anyM P n (u + 1) done).1
      · rw [if_pos c, ← c]
        have : (fun a => decide (pathC P done (f :: a) = costN P f done + (fwU anyM P n u (done ||| 2 ^ f)).1)) = fun a => decide (pathC P (done ||| 2 ^ f) a = (fwU anyM P n u (done ||| 2 ^ f)).1) := by
          funext a
          rw [decide_eq_decide, pathC]
          omega
        rw [this, ih]
        rfl
      · rw [if_neg c]
        rw [Option.map_eq_none_iff, List.find?_eq_none]
        intro r hr
        simp only [decide_eq_true_eq]
        intro hc
        rw [pathC] at hc
        have h1 := hm2.le _ (List.mem_map.2 ⟨r, hr, rfl⟩)
        have h2 : (fwU anyM P n (u + 1) done).1 ≤ costN P f done + (fwU anyM P n u (done ||| 2 ^ f)).1 := by
          have hne2 := ords_ne n u (done ||| 2 ^ f) (by omega)
          have h3 := hm2.mem (by simpa using hne2)
          obtain ⟨s, hs, hs2⟩ := List.mem_map.1 h3
          rw [← hs2]
          refine hmin.le _ (List.mem_map.2 ⟨f :: s, ?_, rfl⟩)
          rw [compsU, List.mem_flatMap]
          exact ⟨f, List.mem_range.2 hf, by simp [hb, anyM]; exact hs⟩
        omega
    have hsome : ∃ o ∈ compsU anyM n (u + 1) done, pathC P done o = (fwU anyM P n (u + 1) done).1 := by
      obtain ⟨o, ho, he⟩ := List.mem_map.1 (hmin.mem (by simpa using hne))
      exact ⟨o, ho, he⟩
    have hfs : (compsU anyM n (u + 1) done).find? (fun o => decide (pathC P done o = (fwU anyM P n (u + 1) done).1)) =
        (List.range n).findSome? fun f => if (!done.testBit f && decide (costN P f done + (fwD anyM P n (done ||| 2 ^ f)).1 = (fwU anyM P n (u + 1) done).1)) then some (f :: gre P n u (done ||| 2 ^ f)) else none := by
      rw [compsU, List.find?_flatMap]
      have : ∀ l : List Nat, (∀ f ∈ l, f < n) → l.findSome? (fun x => List.find? (fun o => decide (pathC P done o = (fwU anyM P n (u + 1) done).1)) (if (done.testBit x || !anyM x done) = true then [] else (compsU anyM n u (done ||| 2 ^ x)).map (x :: ·))) =
          l.findSome? fun f => if (!done.testBit f && decide (costN P f done + (fwD anyM P n (done ||| 2 ^ f)).1 = (fwU anyM P n (u + 1) done).1)) then some (f :: gre P n u (done ||| 2 ^ f)) else none := by
        intro l
        induction l with
        | nil => intro _; rfl
        | cons f l ih =>
          intro hl
          rw [List.findSome?_cons, List.findSome?_cons, ih fun g hg => hl g (by simp [hg])]
          cases hb : done.testBit f
          · simp only [anyM, Bool.not_true, Bool.or_false, Bool.false_eq_true, if_false, Bool.not_false, Bool.true_and, decide_eq_true_eq]
            rw [one f (hl f (by simp)) hb]
          · simp
      exact this _ fun f hf => List.mem_range.1 hf
    have conv : ∀ l : List Nat, (l.findSome? fun f => if (!done.testBit f && decide (costN P f done + (fwD anyM P n (done ||| 2 ^ f)).1 = (fwU anyM P n (u + 1) done).1)) then some (f :: gre P n u (done ||| 2 ^ f)) else none) =
        (l.find? fun f => !done.testBit f && decide (costN P f done + (fwD anyM P n (done ||| 2 ^ f)).1 = (fwU anyM P n (u + 1) done).1)).map fun f => f :: gre P n u (done ||| 2 ^ f) := by
      intro l
      induction l with
      | nil => rfl
      | cons f l ih =>
        rw [List.findSome?_cons, List.find?_cons, ih]
        cases hq : (!done.testBit f && decide (costN P f done + (fwD anyM P n (done ||| 2 ^ f)).1 = (fwU anyM P n (u + 1) done).1)) <;> simp
    rw [hfs, conv, gre, e]
    cases hq : (List.range n).find? fun f => !done.testBit f && decide (costN P f done + (fwD anyM P n (done ||| 2 ^ f)).1 = (fwU anyM P n (u + 1) done).1) with
    | some f => rfl
    | none =>
      exfalso
      rw [conv, hq] at hfs
      obtain ⟨o, ho, he⟩ := hsome
      have := List.find?_eq_none.1 hfs o ho
      simp [he] at this
end Go.Am.Ring

/-
  What functions of chapter 04 compute, 7: the reference's lists of orders.
-/
set_option linter.unusedVariables false
set_option linter.unusedSimpArgs false
set_option maxRecDepth 10000
namespace Go.Am.Ring
open Go.Am.G

def mk : List Nat → Nat
  | [] => 0
  | x :: r => mk r ||| 2 ^ x
theorem mk_bit : ∀ (l : List Nat) (p : Nat), (mk l).testBit p = decide (p ∈ l)
  | [], p => by simp [mk]
  | x :: r, p => by
    rw [mk, or_bit, mk_bit r, Bool.eq_iff_iff]
    simp only [Bool.or_eq_true, decide_eq_true_eq, List.mem_cons]
    constructor
    · rintro (h | h)
      · exact .inr h
      · exact .inl h.symm
    · rintro (h | h)
      · exact .inr h.symm
      · exact .inl h
theorem mk_snoc (l : List Nat) (x : Nat) : mk (l ++ [x]) = mk l ||| 2 ^ x := by
  induction l with
  | nil => simp [mk]
  | cons a r ih => rw [List.cons_append, mk, mk, ih, Nat.or_assoc, Nat.or_assoc, Nat.or_comm (2 ^ x)]
/-- All orders that begin with some forms. -/
def subO (n u : Nat) (b : List Nat) : List (List Nat) := (compsU anyM n u (mk b)).map (b ++ ·)
theorem subO_succ (n u : Nat) (b : List Nat) : subO n (u + 1) b = (List.range n).flatMap fun f => if f ∈ b then [] else subO n u (b ++ [f]) := by
  unfold subO
  rw [compsU, List.map_flatMap]
  congr 1
  funext f
  rw [mk_bit]
  by_cases h : f ∈ b
  · simp [h]
  · simp only [h, decide_false, anyM, Bool.not_true, Bool.or_false, Bool.false_eq_true, if_false, mk_snoc, List.map_map]
    apply List.map_congr_left
    intro o _
    simp
theorem subO_len (n : Nat) (hn : n ≤ 6) : ∀ (u : Nat) (b : List Nat), (subO n u b).length ≤ 6 ^ u
  | 0, b => by simp [subO, compsU]
  | u + 1, b => by
    rw [subO_succ, List.length_flatMap]
    have : ∀ l : List Nat, (l.map fun f => (if f ∈ b then [] else subO n u (b ++ [f])).length).sum ≤ l.length * 6 ^ u := by
      intro l
      induction l with
      | nil => simp
      | cons f l ih =>
        rw [List.map_cons, List.sum_cons, List.length_cons, Nat.add_mul, Nat.one_mul]
        have : (if f ∈ b then ([] : List (List Nat)) else subO n u (b ++ [f])).length ≤ 6 ^ u := by
          split
          · simp
          · exact subO_len n hn u _
        omega
    have h := this (List.range n)
    rw [List.length_range] at h
    refine Nat.le_trans h ?_
    rw [Nat.pow_succ, Nat.mul_comm]
    exact Nat.mul_le_mul_left _ hn
abbrev rows (R : List (List Nat)) : List LV := R.map fun o => rlv (ci o)
theorem rows_scalar (R : List (List Nat)) : (rows R).all LV.scalar = true := by simp [LV.scalar]
theorem rows_pures (R : List (List Nat)) : LV.pures (rows R) = true := by
  induction R with
  | nil => rfl
  | cons a r ih => simp [LV.pures, LV.pure, ih]
theorem orders_loop (n : Nat) (hn : 1 ≤ n ∧ n ≤ 6) (u : Nat) (hu : u ≤ 6) (b : List Nat) (hb : b.length ≤ 6) (sub : Nat → List (List Nat)) (hsub : ∀ f, (sub f).length ≤ 6 ^ u)
    (hrec : ∀ f, f < n → f ∉ b → ∃ nl ex, clF LP n_ref04_orders [.int .i64 (n : Int), RL (ci (b ++ [f]))] [] = some (.P, .lst nl ex 1 (sub f).length (rows (sub f)), [])) (j : Nat) :
    ∀ (f : Nat) (M : LMem) (v : LV) (R : List (List Nat)), f + j = n → R.length ≤ f * 6 ^ u → Lst M v 1 R.length (rows R) →
    ∃ v' M', exF LP ref04_orders.L0 [(0, .int .i64 (n : Int)), (1, RL (ci b)), (5, v), (6, .int .i64 (f : Int))] M = some (.exit 0, [(5, v')], M') ∧
      Lst M' v' 1 (R ++ (List.range' f j).flatMap fun f => if f ∈ b then [] else sub f).length (rows (R ++ (List.range' f j).flatMap fun f => if f ∈ b then [] else sub f)) := by
  induction j with
  | zero =>
    intro f M v R hf hR hL
    refine ⟨v, M, ?_, by simpa using hL⟩
    rw [ref04_orders.L0_eq]
    simp only [ref04_orders.B0, exF_seq, exF_region, exF_cond, exF_exit, runL, wantL, stepL, evL, LEnv.at, putL, loadFine, LEnv.keep, List.map_cons, List.map_nil, nbeq, bin_lss, Nat.reduceEqDiff, decide_true, decide_false, cond_true, cond_false, reduceCtorEq, eq_self, show ¬ ((f : Int) < (n : Int)) by omega]
  | succ j ih =>
    intro f M v R hf hR hL
    have hfi : (f : Int) < (n : Int) := by omega
    have hw := wrap_succ (show f + 1 < 9223372036854775808 by omega)
    have hp := fun m => place_c (decide (ci b = [])) (decide (ci b = [])) (cond (decide (ci b = [])) 0 1) (ci b) (f : Int) (by rw [ci_len]; omega) m
    have hpm := plc_mem (ci b) (f : Int)
    rw [ci_mem] at hpm
    have h6 : 6 ^ u ≤ 46656 := by
      have : 6 ^ u ≤ 6 ^ 6 := Nat.pow_le_pow_right (by omega) hu
      exact this
    generalize 6 ^ u = K at *
    have h4 : (f + 1) * K = f * K + K := by rw [Nat.add_mul, Nat.one_mul]
    have h7 : f * K ≤ 6 * 46656 := Nat.mul_le_mul (by omega) h6
    by_cases hfb : f ∈ b
    · obtain ⟨v', M', he, hL'⟩ := ih (f + 1) M v R (by omega) (by rw [h4]; omega) hL
      refine ⟨v', M', ?_, ?_⟩
      · have c := hpm.2 hfb
        rw [ref04_orders.L0_eq]
        simp only [ref04_orders.B0, exF_seq, exF_region, exF_block, exF_cond, exF_skip, runL, wantL, stepL, evL, evC, LEnv.at, putL, loadFine, LEnv.keep, List.map_cons, List.map_nil, nbeq, ofAVs, bin_add, bin_lss, Nat.reduceEqDiff, decide_true, decide_false, cond_true, cond_false, reduceCtorEq, eq_self, List.append_nil, List.nil_append, hfi, hp, show ¬ plc (ci b) (f : Int) < 0 by omega, hw, he]
      · rw [List.range'_succ, List.flatMap_cons, if_pos hfb, List.nil_append]
        exact hL'
    · have c : plc (ci b) (f : Int) < 0 := by
        have : ¬ 0 ≤ plc (ci b) (f : Int) := fun c => hfb (hpm.1 c)
        omega
      obtain ⟨nl, ex, hr⟩ := hrec f (by omega) hfb
      have c1 := app_clone M (decide (ci b = [])) (decide (ci b = [])) (cond (decide (ci b = [])) 0 1) (ci b) (by rw [ci_len]; omega) (by
        by_cases h0 : ci b = []
        · exact .inl h0
        · exact .inr (by simp [h0]))
      have c2 := app_two M (ci b) (f : Int) (by rw [ci_len]; omega)
      have e1 : ci (b ++ [f]) = ci b ++ [(f : Int)] := by simp
      have hne : ci b ++ [(f : Int)] ≠ [] := by simp
      rw [e1] at hr
      have hv : views (M ++ GM (ci b ++ [(f : Int)])) [.int .i64 (n : Int), GV M.length (ci b ++ [(f : Int)])] = some ([.int .i64 (n : Int), RL (ci b ++ [(f : Int)])], [M.length]) := by
        have := views_snd 92 (M ++ GM (ci b ++ [(f : Int)])) (.int .i64 (n : Int)) (GV M.length (ci b ++ [(f : Int)])) (RL (ci b ++ [(f : Int)])) [M.length] (fun k => by
          have := view_grow k M (ci b ++ [(f : Int)])
          rw [if_neg hne] at this
          exact this) rfl (by simp [GV, hne, LV.pures, LV.pure])
        exact this
      obtain ⟨m1, hc, hkeep, hlen⟩ := call_shown lp_ref04_orders rfl hv (by simp [LV.pures, LV.pure]) hr
      have hblk : ∀ i, isBlk v i → i < M.length := fun i hi => hL.lt i hi
      have hL1 : Lst m1 v 1 R.length (rows R) := hL.mono fun i hi => by
        rw [hkeep i (by have := hblk i hi; simp; omega), List.getElem?_append_left (hblk i hi)]
      have hsl := hsub f
      have hvn : ∀ m, views m [] = some ([], []) := fun _ => rfl
      have hfn : ∀ m, freeze [] m = m := freeze_nil
      have hvi : ∀ m (x : Int), views m [.int .i64 x] = some ([.int .i64 x], []) := fun m x => rfl
      have hci : ∀ (x : Int), (LV.int .i64 x).cells = some [.int .i64 x] := fun x => rfl
      obtain ⟨v2, M2, ha, hL2, _, _, _⟩ := hL1.append (x := .lst nl ex 1 (sub f).length (rows (sub f))) (k := (sub f).length) (news := rows (sub f)) (bytes := 24) (by simp [contents, nbeq]) (by simp) (by omega) (by omega) (rows_scalar _)
      rw [← List.map_append, ← List.length_append] at hL2
      obtain ⟨v', M', he, hL'⟩ := ih (f + 1) M2 v2 (R ++ sub f) (by omega) (by rw [h4, List.length_append]; omega) hL2
      refine ⟨v', M', ?_, ?_⟩
      · rw [ref04_orders.L0_eq]
        simp only [ref04_orders.B0, exF_seq, exF_region, exF_block, exF_cond, exF_skip, runL, wantL, stepL, evL, evC, LEnv.at, putL, loadFine, LEnv.keep, List.map_cons, List.map_nil, nbeq, nble, ofAV, ofAVs, bin_add, bin_lss, Nat.zero_mul, Bool.or_false, Bool.or_true, Bool.and_true, Nat.reduceEqDiff, decide_true, decide_false, cond_true, cond_false, Nat.reduceAdd, reduceCtorEq, List.length_nil, List.length_cons, Nat.mul_one, eq_self, List.append_nil, List.nil_append, Nat.reduceDiv, spliceL, List.take_zero, List.take_succ_cons, List.drop_succ_cons, List.drop_nil, List.take_nil, Nat.le_refl, fillL, hfi, hp, c, hvn, hfn, c1, hvi, hci, c2, hc, ha, hw, he]
      · rw [List.range'_succ, List.flatMap_cons, if_neg hfb, ← List.append_assoc]
        exact hL'
theorem ci_ne {b : List Nat} (h : b ≠ []) : ci b ≠ [] := by simpa using h
theorem RL_ne {l : List Int} (h : l ≠ []) : RL l = rlv l := by simp [RL, h]
theorem orders_c (n : Nat) (hn : 1 ≤ n ∧ n ≤ 6) : ∀ (u : Nat) (b : List Nat), b.length + u = n → leftN n (mk b) = u → ∃ nl ex, ∀ m, clF LP n_ref04_orders [.int .i64 (n : Int), RL (ci b)] m = some (.P, .lst nl ex 1 (subO n u b).length (rows (subO n u b)), m)
  | 0, b, hb, hu => by
    have hbe : b ≠ [] := by intro c; subst c; simp at hb; omega
    have hne := ci_ne hbe
    refine ⟨false, true, fun m => ?_⟩
    have e : subO n 0 b = [b] := by simp [subO, compsU]
    rw [e]
    refine call_P lp_ref04_orders rfl (by simp [LV.pures, LV.pure]) (m1 := []) ?_ (by simp [LV.pure]) m
    have hl : ((b.length : Nat) : Int) = (n : Int) := by omega
    have hr := RL_ne hne
    simp only [ref04_orders, ref04_orders.B, exF_seq, exF_region, exF_cond, exF_ret, runL, wantL, stepL, evL, evC, LEnv.at, putL, loadFine, LEnv.keep, LEnv.ofFrom, List.map_cons, List.map_nil, nbeq, nble, ofAV, ofAVs, lenL, bin_eql, Bool.or_false, Bool.and_true, Nat.reduceEqDiff, decide_true, decide_false, cond_true, cond_false, Nat.reduceAdd, reduceCtorEq, List.length_nil, List.length_cons, Nat.mul_one, eq_self, retL, resultsL, resAllL, resOfL, List.append_nil, List.nil_append, views_pures, LV.pures, LV.pure, freeze, Nat.reduceDiv, LV.cells, spliceL, List.take_zero, List.take_succ_cons, List.drop_succ_cons, List.drop_nil, List.take_nil, Nat.le_refl, fillL, ci_len, hl]
    simp [hne]
  | u + 1, b, hb, hu => by
    have hrec : ∀ f, f < n → f ∉ b → ∃ nl ex, clF LP n_ref04_orders [.int .i64 (n : Int), RL (ci (b ++ [f]))] [] = some (.P, .lst nl ex 1 (subO n u (b ++ [f])).length (rows (subO n u (b ++ [f]))), []) := by
      intro f hf hfb
      obtain ⟨nl, ex, h⟩ := orders_c n hn u (b ++ [f]) (by simp; omega) (by
        have := leftN_next (mk b) f (by rw [mk_bit]; simpa using hfb) n hf
        rw [mk_snoc]; omega)
      exact ⟨nl, ex, h []⟩
    obtain ⟨v', M', he, hL⟩ := orders_loop n hn u (by omega) b (by omega) (fun f => subO n u (b ++ [f])) (fun f => subO_len n hn.2 u _) hrec n 0 [] (.lst true true 0 0 []) [] (by omega) (by simp) (Lst.nil [] 1)
    rw [List.nil_append, ← List.range_eq_range', ← subO_succ] at hL
    obtain ⟨x, y, z, ids, hz, _, _, hvw⟩ := hL.view (rows_pures _) (by omega)
    have hpos : (subO n (u + 1) b).length ≠ 0 := by
      have := ords_ne n (u + 1) (mk b) hu
      simpa [subO] using this
    obtain rfl : z = 1 := by rcases hz with h | h; exact absurd h hpos; exact h
    refine ⟨x, y, fun m => ?_⟩
    refine call_Pv lp_ref04_orders rfl (by simp [LV.pures, LV.pure]) (m1 := M') (v := v') (ids := ids) ?_ (hvw 97) m
    have hl : ¬ ((b.length : Nat) : Int) = (n : Int) := by omega
    simp only [Int.natCast_zero] at he
    simp only [ref04_orders, ref04_orders.B, exF_seq, exF_region, exF_block, exF_cond, exF_ret, exF_skip, runL, wantL, stepL, evL, evC, LEnv.at, putL, loadFine, LEnv.keep, LEnv.ofFrom, List.map_cons, List.map_nil, nbeq, lenL, bin_eql, Nat.reduceEqDiff, decide_true, decide_false, cond_true, cond_false, Nat.reduceAdd, reduceCtorEq, eq_self, retL, resultsL, resAllL, resOfL, ci_len, hl, he]
theorem ordersN_c (n : Nat) (hn : 1 ≤ n ∧ n ≤ 6) : ∃ nl ex, ∀ m, clF LP n_ref04_orders [.int .i64 (n : Int), .lst true true 0 0 []] m = some (.P, .lst nl ex 1 (ords n).length (rows (ords n)), m) := by
  have e : subO n n [] = ords n := by simp [subO, mk]
  have := orders_c n hn n [] (by simp) (leftN_none n)
  rw [e] at this
  exact this
theorem ords_len (n : Nat) (hn : n ≤ 6) : (ords n).length ≤ 46656 := by
  have h := subO_len n hn n []
  have e : subO n n [] = ords n := by simp [subO, mk]
  rw [e] at h
  have : 6 ^ n ≤ 6 ^ 6 := Nat.pow_le_pow_right (by omega) hn
  exact Nat.le_trans h this

/-! ### The best orders -/
def bestS (P : List (Nat × Nat)) : List (List Nat) → List (List Nat) → List (List Nat)
  | out, [] => out
  | out, o :: r => bestS P (if out = [] then [o] else if contr P o < contr P (out.headD []) then [o] else if contr P o = contr P (out.headD []) then out ++ [o] else out) r
theorem bestS_min (P : List (Nat × Nat)) (m : Nat) : ∀ (l out : List (List Nat)), (∃ c, (∀ o ∈ out, contr P o = c) ∧ m ≤ c ∧ (c = m ∨ ∃ o ∈ l, contr P o = m)) → (∀ o ∈ l, m ≤ contr P o) → (out = [] → ∃ o ∈ l, contr P o = m) → (out ≠ [] ∨ l ≠ []) →
    bestS P out l = (out ++ l).filter fun o => decide (contr P o = m)
  | [], out, ⟨c, h1, h2, h3⟩, h4, h5, h6 => by
    have hne : out ≠ [] := by simpa using h6
    have hc : c = m := by
      rcases h3 with h | ⟨o, ho, _⟩
      · exact h
      · simp at ho
    rw [bestS, List.append_nil, List.filter_eq_self.2]
    intro o ho
    simp [h1 o ho, hc]
  | o :: r, out, ⟨c, h1, h2, h3⟩, h4, h5, h6 => by
    have ho := h4 o (by simp)
    have hr := fun x (hx : x ∈ r) => h4 x (by simp [hx])
    rw [bestS]
    by_cases he : out = []
    · subst he
      rw [if_pos rfl]
      obtain ⟨x, hx, hxm⟩ := h5 rfl
      rw [bestS_min P m r [o] ⟨contr P o, by simp, ho, ?_⟩ hr (by simp) (.inl (by simp))]
      · simp
      · rcases List.mem_cons.1 hx with rfl | hx
        · exact .inl hxm
        · exact .inr ⟨x, hx, hxm⟩
    · rw [if_neg he]
      have hh : contr P (out.headD []) = c := by
        cases out with
        | nil => exact absurd rfl he
        | cons a t => exact h1 a (by simp)
      rw [hh]
      by_cases c1 : contr P o < c
      · rw [if_pos c1, bestS_min P m r [o] ⟨contr P o, by simp, ho, ?_⟩ hr (by simp) (.inl (by simp))]
        · have : out.filter (fun o => decide (contr P o = m)) = [] := by
            rw [List.filter_eq_nil_iff]
            intro x hx
            have := h1 x hx
            simp; omega
          rw [List.filter_append, List.filter_append, this, List.nil_append, ← List.filter_append]
          simp
        · rcases h3 with h | ⟨x, hx, hxm⟩
          · omega
          · rcases List.mem_cons.1 hx with rfl | hx
            · exact .inl hxm
            · exact .inr ⟨x, hx, hxm⟩
      · rw [if_neg c1]
        by_cases c2 : contr P o = c
        · rw [if_pos c2, bestS_min P m r (out ++ [o]) ⟨c, ?_, h2, ?_⟩ hr (by simp) (.inl (by simp))]
          · simp
          · intro x hx
            rcases List.mem_append.1 hx with hx | hx
            · exact h1 x hx
            · rw [List.mem_singleton.1 hx, c2]
          · rcases h3 with h | ⟨x, hx, hxm⟩
            · exact .inl h
            · rcases List.mem_cons.1 hx with rfl | hx
              · exact .inl (by omega)
              · exact .inr ⟨x, hx, hxm⟩
        · rw [if_neg c2, bestS_min P m r out ⟨c, h1, h2, ?_⟩ hr (fun e => absurd e he) (.inl he)]
          · rw [List.filter_append, List.filter_append, List.filter_cons_of_neg (by simp; omega)]
          · rcases h3 with h | ⟨x, hx, hxm⟩
            · exact .inl h
            · rcases List.mem_cons.1 hx with rfl | hx
              · omega
              · exact .inr ⟨x, hx, hxm⟩
end Go.Am.Ring


