/-
  Forms and finds, in plain: what an order contradicts is what its path costs; the first of the best orders; orders that put one form behind another.
-/
import Derived.Test.YtheppipmnfjdcaaRingP2
set_option linter.unusedVariables false
set_option linter.unusedSimpArgs false
namespace Go.Am.Ring

abbrev ci (l : List Nat) : List Int := l.map fun x : Nat => (x : Int)
theorem ci_len (l : List Nat) : (ci l).length = l.length := by simp
theorem ci_mem (l : List Nat) (x : Nat) : (x : Int) ∈ ci l ↔ x ∈ l := by
  simp only [List.mem_map]
  constructor
  · rintro ⟨y, hy, e⟩
    have : y = x := by omega
    exact this ▸ hy
  · intro h; exact ⟨x, h, rfl⟩
/-- Where a form is in an order. -/
def pos (o : List Nat) (x : Nat) : Int := plc (ci o) (x : Int)
theorem plcG_shift (x : Int) : ∀ (l : List Int) (k : Nat), plcG x (k + 1) l = if x ∈ l then plcG x k l + 1 else -1
  | [], k => by simp [plcG]
  | a :: r, k => by
    have := plcG_shift x r (k + 1)
    rw [plcG, plcG]
    by_cases c : a = x
    · subst c; simp
    · rw [if_neg c, if_neg c, this]
      simp [Ne.symm c]
theorem pos_cons (f : Nat) (r : List Nat) (x : Nat) : pos (f :: r) x = if f = x then 0 else if x ∈ r then pos r x + 1 else -1 := by
  unfold pos plc
  rw [show ci (f :: r) = (f : Int) :: ci r from rfl, plcG]
  by_cases c : f = x
  · subst c; simp
  · rw [if_neg (by omega), if_neg c, plcG_shift]
    simp only [ci_mem]
theorem pos_mem (o : List Nat) (x : Nat) : 0 ≤ pos o x ↔ x ∈ o := by unfold pos; rw [plc_mem, ci_mem]
theorem pos_not (o : List Nat) (x : Nat) (h : x ∉ o) : pos o x = -1 := by
  have h1 : ¬ 0 ≤ pos o x := fun c => h ((pos_mem o x).1 c)
  have h2 := (plcG_lt (x : Int) (ci o) 0).1
  have h3 : pos o x = plcG (x : Int) 0 (ci o) := rfl
  omega
theorem pos_ge (o : List Nat) (x : Nat) : -1 ≤ pos o x := (plcG_lt (x : Int) (ci o) 0).1
def contr (P : List (Nat × Nat)) (o : List Nat) : Nat := P.countP fun p => decide (pos o p.2 < pos o p.1)
theorem agnF_length (o : List Nat) : ∀ (P : List (Nat × Nat)) (k : Nat), (agnF (ci o) k (P.map castP)).length = contr P o
  | [], k => rfl
  | p :: P, k => by
    have ih := agnF_length o P (k + 1)
    rw [List.map_cons, agnF]
    unfold contr at *
    rw [List.countP_cons]
    have e : plc (ci o) (castP p).2 < plc (ci o) (castP p).1 ↔ pos o p.2 < pos o p.1 := Iff.rfl
    by_cases c : pos o p.2 < pos o p.1
    · rw [if_pos (e.2 c), List.length_cons, ih]; simp [c]
    · rw [if_neg fun h => c (e.1 h), ih]; simp [c]
theorem contr_path (P : List (Nat × Nat)) : ∀ (r : List Nat) (done : Nat), r.Nodup → (∀ x ∈ r, done.testBit x = false) → (∀ p ∈ P, p.2 ∈ r ∨ done.testBit p.2 = true) → pathC P done r = contr P r
  | [], done, _, _, _ => by
    unfold contr
    rw [pathC, eq_comm, List.countP_eq_zero]
    intro p _
    simp [pos_not]
  | f :: r, done, hn, hd, hp => by
    have hf := hd f (by simp)
    obtain ⟨hfr, hn⟩ := List.nodup_cons.1 hn
    rw [pathC, contr_path P r (done ||| 2 ^ f) hn]
    · clear hn
      unfold costN contr
      induction P with
      | nil => rfl
      | cons p P ih =>
        have ih := ih fun q hq => hp q (by simp [hq])
        have hp := hp p (by simp)
        rw [List.countP_cons, List.countP_cons, List.countP_cons, ← ih]
        have e : ((if (p.1 == f && done.testBit p.2) = true then 1 else 0) + if decide (pos r p.2 < pos r p.1) = true then 1 else 0) = if decide (pos (f :: r) p.2 < pos (f :: r) p.1) = true then 1 else 0 := by
          simp only [decide_eq_true_eq, pos_cons]
          have g1 := pos_ge r p.1
          have g2 := pos_ge r p.2
          have n1 := pos_not r p.1
          have n2 := pos_not r p.2
          have m1 := pos_mem r p.1
          have m2 := pos_mem r p.2
          clear ih
          by_cases c1 : f = p.1
          · have n0 := n1 (fun c => hfr (c1 ▸ c))
            have c1b : (p.1 == f) = true := by simp [c1]
            by_cases c2 : f = p.2
            · rw [if_pos c2, if_pos c1, n0]
              have hz : done.testBit p.2 = false := c2 ▸ hf
              simp [hz]
              omega
            · rw [if_pos c1, n0]
              by_cases c3 : p.2 ∈ r
              · have hz := hd p.2 (by simp [c3])
                have := m2.2 c3
                rw [if_neg c2, if_pos c3, hz, if_neg (show ¬ pos r p.2 + 1 < 0 by omega), if_neg (show ¬ pos r p.2 < -1 by omega)]
                simp
              · have hz : done.testBit p.2 = true := by
                  rcases hp with hp | hp
                  · simp [c3, Ne.symm c2] at hp
                  · exact hp
                have := n2 c3
                rw [if_neg c2, if_neg c3]
                simp [hz, c1]
                omega
          · have c1' : (p.1 == f) = false := by simp; omega
            simp only [c1', Bool.false_and, Bool.false_eq_true, if_false, Nat.zero_add, if_neg c1]
            by_cases c4 : p.1 ∈ r
            · have := m1.2 c4
              by_cases c2 : f = p.2
              · have h2 : p.2 ∉ r := c2 ▸ hfr
                have := n2 h2
                simp only [c2, if_true, c4]
                rw [if_pos (by omega), if_pos (by omega)]
              · simp only [c2, if_false, c4, if_true]
                by_cases c3 : p.2 ∈ r
                · simp only [c3, if_true]
                  congr 1
                  rw [eq_iff_iff]; omega
                · have := n2 c3
                  simp only [c3, if_false]
                  rw [if_pos (by omega), if_pos (by omega)]
            · have := n1 c4
              simp only [c4, if_false]
              rw [if_neg (by omega), if_neg (by split <;> first | omega | (split <;> omega))]
        omega
    · intro x hx
      rw [or_bit, hd x (by simp [hx])]
      have : ¬ f = x := fun e => hfr (e ▸ hx)
      simp [this]
    · intro p hq
      rcases hp p hq with h | h
      · rcases List.mem_cons.1 h with h | h
        · right; rw [or_bit, h]; simp
        · exact .inl h
      · right; rw [or_bit, h]; simp

/-! ### All orders -/
theorem comps_ok (may : Nat → Nat → Bool) (n : Nat) : ∀ (u done : Nat), leftN n done = u → ∀ o ∈ compsU may n u done, o.Nodup ∧ o.length = u ∧ (∀ x ∈ o, x < n ∧ done.testBit x = false) ∧ (∀ x, x < n → x ∈ o ∨ done.testBit x = true)
  | 0, done, hu, o, ho => by
    simp only [compsU, List.mem_singleton] at ho
    subst ho
    refine ⟨List.nodup_nil, rfl, by simp, fun x hx => .inr ?_⟩
    unfold leftN at hu
    rw [List.countP_eq_zero] at hu
    have := hu x (List.mem_range.2 hx)
    simpa using this
  | u + 1, done, hu, o, ho => by
    simp only [compsU, List.mem_flatMap] at ho
    obtain ⟨f, hf, ho⟩ := ho
    have hf := List.mem_range.1 hf
    split at ho
    · simp at ho
    · rename_i hb
      obtain ⟨r, hr, rfl⟩ := List.mem_map.1 ho
      have hb : done.testBit f = false := by
        cases c : done.testBit f
        · rfl
        · simp [c] at hb
      have hl := leftN_next done f hb n hf
      obtain ⟨h1, h2, h3, h4⟩ := comps_ok may n u (done ||| 2 ^ f) (by omega) r hr
      have h5 : ∀ x ∈ r, done.testBit x = false ∧ ¬ f = x := by
        intro x hx
        have := (h3 x hx).2
        rw [or_bit] at this
        simpa using this
      refine ⟨List.nodup_cons.2 ⟨fun c => (h5 f c).2 rfl, h1⟩, by simp [h2], ?_, ?_⟩
      · intro x hx
        rcases List.mem_cons.1 hx with rfl | hx
        · exact ⟨hf, hb⟩
        · exact ⟨(h3 x hx).1, (h5 x hx).1⟩
      · intro x hx
        rcases h4 x hx with h | h
        · exact .inl (by simp [h])
        · rw [or_bit] at h
          by_cases c : f = x
          · exact .inl (by simp [c])
          · right; simpa [c] using h
theorem leftN_none (n : Nat) : leftN n 0 = n := by
  unfold leftN
  rw [List.countP_eq_length.2 (by simp), List.length_range]
abbrev ords (n : Nat) : List (List Nat) := compsU anyM n n 0
theorem ords_ok {n : Nat} {o : List Nat} (h : o ∈ ords n) : o.Nodup ∧ o.length = n ∧ (∀ x ∈ o, x < n) ∧ (∀ x, x < n → x ∈ o) := by
  obtain ⟨h1, h2, h3, h4⟩ := comps_ok anyM n n 0 (leftN_none n) o h
  exact ⟨h1, h2, fun x hx => (h3 x hx).1, fun x hx => by simpa using h4 x hx⟩
theorem path_contr {n : Nat} {P : List (Nat × Nat)} (may : Nat → Nat → Bool) (hP : ∀ p ∈ P, p.2 < n) {o : List Nat} (h : o ∈ compsU may n n 0) : pathC P 0 o = contr P o := by
  obtain ⟨h1, h2, h3, h4⟩ := comps_ok may n n 0 (leftN_none n) o h
  refine contr_path P o 0 h1 (by simp) fun p hp => ?_
  have := h4 p.2 (hP p hp)
  simpa using this
/-- The fewest finds, and of how many orders. -/
theorem fw_min (may : Nat → Nat → Bool) {n : Nat} {P : List (Nat × Nat)} (G : Good n P) : IsMin ((compsU may n n 0).map (contr P)) (fwD may P n 0) := by
  have h := fwU_min may P G.le12 n n 0
  have e : (compsU may n n 0).map (contr P) = (compsU may n n 0).map (pathC P 0) := List.map_congr_left fun o ho => (path_contr may (fun p hp => (G.lt p hp).2) ho).symm
  rw [e]
  unfold fwD
  rw [leftN_none]
  exact h
theorem ords_ne (n : Nat) : ∀ (u done : Nat), leftN n done = u → compsU anyM n u done ≠ []
  | 0, done, _ => by simp [compsU]
  | u + 1, done, hu => by
    have hne : leftN n done ≠ 0 := by omega
    unfold leftN at hne
    rw [Ne, List.countP_eq_zero] at hne
    have ⟨f, hf⟩ : ∃ f, f < n ∧ done.testBit f = false := by
      apply Classical.byContradiction
      intro c
      apply hne
      intro x hx
      cases hb : done.testBit x
      · exact absurd ⟨x, List.mem_range.1 hx, hb⟩ c
      · simp
    have ih := ords_ne n u (done ||| 2 ^ f) (by have := leftN_next done f hf.2 n hf.1; omega)
    intro c
    rw [compsU, List.flatMap_eq_nil_iff] at c
    have := c f (List.mem_range.2 hf.1)
    simp [hf.2, anyM] at this
    exact ih this
/-- The first of the best orders, step by step. -/
def gre (P : List (Nat × Nat)) (n : Nat) : Nat → Nat → List Nat
  | 0, _ => []
  | u + 1, done => match (List.range n).find? fun f => !done.testBit f && decide (costN P f done + (fwD anyM P n (done ||| 2 ^ f)).1 = (fwD anyM P n done).1) with
    | some f => f :: gre P n u (done ||| 2 ^ f)
    | none => []
theorem find_map {α β : Type} (g : α → β) (p : β → Bool) : ∀ l : List α, (l.map g).find? p = (l.find? (fun a => p (g a))).map g
  | [] => rfl
  | a :: l => by
    rw [List.map_cons, List.find?_cons, List.find?_cons]
    cases p (g a)
    · exact find_map g p l
    · rfl
theorem gre_first (P : List (Nat × Nat)) (hP : P.length ≤ 12) (n : Nat) : ∀ (u done : Nat), leftN n done = u → (compsU anyM n u done).find? (fun o => decide (pathC P done o = (fwD anyM P n done).1)) = some (gre P n u done)
  | 0, done, hu => by
    simp [compsU, gre, pathC, fwD, hu, fwU]
  | u + 1, done, hu => by
    have hmin := fwU_min anyM P hP n (u + 1) done
    have hne := ords_ne n (u + 1) done hu
    have e : fwD anyM P n done = fwU anyM P n (u + 1) done := by unfold fwD; rw [hu]
    rw [e]
    -- one form
    have one : ∀ f, f < n → done.testBit f = false → ((compsU anyM n u (done ||| 2 ^ f)).map (f :: ·)).find? (fun o => decide (pathC P done o = (fwU anyM P n (u + 1) done).1)) =
        if costN P f done + (fwD anyM P n (done ||| 2 ^ f)).1 = (fwU anyM P n (u + 1) done).1 then some (f :: gre P n u (done ||| 2 ^ f)) else none := by
      intro f hf hb
      have hl := leftN_next done f hb n hf
      have ih := gre_first P hP n u (done ||| 2 ^ f) (by omega)
      have hm2 := fwU_min anyM P hP n u (done ||| 2 ^ f)
      have e2 : fwD anyM P n (done ||| 2 ^ f) = fwU anyM P n u (done ||| 2 ^ f) := by unfold fwD; rw [show leftN n (done ||| 2 ^ f) = u by omega]
      rw [e2] at ih ⊢
      rw [find_map]
      by_cases c : costN P f done + (fwU anyM P n u (done ||| 2 ^ f)).1 = (fwU anyM P n (u + 1) done).1
      · rw [if_pos c, ← c]
        have : (fun a => decide (pathC P done (f :: a) = costN P f done + (fwU anyM P n u (done ||| 2 ^ f)).1)) = fun a => decide (pathC P (done ||| 2 ^ f) a = (fwU anyM P n u (done ||| 2 ^ f)).1) := by
          funext a
          rw [decide_eq_decide, pathC]
          omega
        rw [this, ih]
        rfl
      · rw [if_neg c]
        rw [Option.map_eq_none_iff, List.find?_eq_none]
        intro r hr
        simp only [decide_eq_true_eq]
        intro hc
        rw [pathC] at hc
        have h1 := hm2.le _ (List.mem_map.2 ⟨r, hr, rfl⟩)
        have h2 : (fwU anyM P n (u + 1) done).1 ≤ costN P f done + (fwU anyM P n u (done ||| 2 ^ f)).1 := by
          have hne2 := ords_ne n u (done ||| 2 ^ f) (by omega)
          have h3 := hm2.mem (by simpa using hne2)
          obtain ⟨s, hs, hs2⟩ := List.mem_map.1 h3
          rw [← hs2]
          refine hmin.le _ (List.mem_map.2 ⟨f :: s, ?_, rfl⟩)
          rw [compsU, List.mem_flatMap]
          exact ⟨f, List.mem_range.2 hf, by simp [hb, anyM]; exact hs⟩
        omega
    have hsome : ∃ o ∈ compsU anyM n (u + 1) done, pathC P done o = (fwU anyM P n (u + 1) done).1 := by
      obtain ⟨o, ho, he⟩ := List.mem_map.1 (hmin.mem (by simpa using hne))
      exact ⟨o, ho, he⟩
    have hfs : (compsU anyM n (u + 1) done).find? (fun o => decide (pathC P done o = (fwU anyM P n (u + 1) done).1)) =
        (List.range n).findSome? fun f => if (!done.testBit f && decide (costN P f done + (fwD anyM P n (done ||| 2 ^ f)).1 = (fwU anyM P n (u + 1) done).1)) then some (f :: gre P n u (done ||| 2 ^ f)) else none := by
      rw [compsU, List.find?_flatMap]
      have : ∀ l : List Nat, (∀ f ∈ l, f < n) → l.findSome? (fun x => List.find? (fun o => decide (pathC P done o = (fwU anyM P n (u + 1) done).1)) (if (done.testBit x || !anyM x done) = true then [] else (compsU anyM n u (done ||| 2 ^ x)).map (x :: ·))) =
          l.findSome? fun f => if (!done.testBit f && decide (costN P f done + (fwD anyM P n (done ||| 2 ^ f)).1 = (fwU anyM P n (u + 1) done).1)) then some (f :: gre P n u (done ||| 2 ^ f)) else none := by
        intro l
        induction l with
        | nil => intro _; rfl
        | cons f l ih =>
          intro hl
          rw [List.findSome?_cons, List.findSome?_cons, ih fun g hg => hl g (by simp [hg])]
          cases hb : done.testBit f
          · simp only [anyM, Bool.not_true, Bool.or_false, Bool.false_eq_true, if_false, Bool.not_false, Bool.true_and, decide_eq_true_eq]
            rw [one f (hl f (by simp)) hb]
          · simp
      exact this _ fun f hf => List.mem_range.1 hf
    have conv : ∀ l : List Nat, (l.findSome? fun f => if (!done.testBit f && decide (costN P f done + (fwD anyM P n (done ||| 2 ^ f)).1 = (fwU anyM P n (u + 1) done).1)) then some (f :: gre P n u (done ||| 2 ^ f)) else none) =
        (l.find? fun f => !done.testBit f && decide (costN P f done + (fwD anyM P n (done ||| 2 ^ f)).1 = (fwU anyM P n (u + 1) done).1)).map fun f => f :: gre P n u (done ||| 2 ^ f) := by
      intro l
      induction l with
      | nil => rfl
      | cons f l ih =>
        rw [List.findSome?_cons, List.find?_cons, ih]
        cases hq : (!done.testBit f && decide (costN P f done + (fwD anyM P n (done ||| 2 ^ f)).1 = (fwU anyM P n (u + 1) done).1)) <;> simp
    rw [hfs, conv, gre, e]
    cases hq : (List.range n).find? fun f => !done.testBit f && decide (costN P f done + (fwD anyM P n (done ||| 2 ^ f)).1 = (fwU anyM P n (u + 1) done).1) with
    | some f => rfl
    | none =>
      exfalso
      rw [conv, hq] at hfs
      obtain ⟨o, ho, he⟩ := hsome
      have := List.find?_eq_none.1 hfs o ho
      simp [he] at this
end Go.Am.Ring

