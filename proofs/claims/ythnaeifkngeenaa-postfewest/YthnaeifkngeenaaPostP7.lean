/-
  Plain: what is found place by place is the first of the cheapest posts. No statement of the seat is proved here.
-/
import Derived.Test.YthnaeifkngeenaaPostC9
set_option linter.unusedVariables false
set_option linter.unusedSimpArgs false
namespace Go.Am.Post
open SR Go.Am.G

theorem wh_congr (par : Nat → Nat) (n : Nat) (price : Nat → Nat) {a a' c c' : Nat → Bool} (ha : ∀ v, v < n → a v = a' v) (hc : ∀ v, v < n → c v = c' v) : wh par n price a c = wh par n price a' c' := by
  unfold wh
  refine sumL_congr _ _ _ fun S _ => ?_
  have : allN (okS par a c S) n = allN (okS par a' c' S) n := by
    rw [Bool.eq_iff_iff, okS_iff, okS_iff]
    constructor
    · rintro ⟨h1, h2, h3⟩
      exact ⟨h1, fun v hv h => h2 v hv (by rw [ha v hv]; exact h), fun v hv h => by rw [← hc v hv]; exact h3 v hv h⟩
    · rintro ⟨h1, h2, h3⟩
      exact ⟨h1, fun v hv h => h2 v hv (by rw [← ha v hv]; exact h), fun v hv h => by rw [hc v hv]; exact h3 v hv h⟩
  rw [this]
theorem memL_mask {n : Nat} (hn : n ≤ 10) {M : List Nat} (hM : M ∈ asc 0 n) : memL (maskN M 0) = M := by
  have hm := (mem_asc _ _ _).1 hM
  refine up_ext (i := 0) (up_filter _ (up_range' 10 0)) hm.1 fun x => ?_
  show x ∈ (List.range' 0 10).filter _ ↔ _
  rw [List.mem_filter, maskN_bit, Nat.zero_testBit, Bool.false_or, decide_eq_true_eq, List.mem_range']
  constructor
  · rintro ⟨_, h⟩; exact h
  · intro h; have := hm.2 x h; exact ⟨⟨x, by omega, by omega⟩, h⟩
/-- A cost that is at most a number is told by the program's rating. -/
theorem whole_iff {s : List Int} (K : OkS s) (g : Nat) (cap : List LV) (price : Nat → Nat) (hp : ∀ i, i < s.length → price i ≤ 20) (must mustNot b : Nat) (hb : b ≤ 1000) :
    wholeV (minR g cap price) must mustNot s = (b : Int) ↔ wh (par s) s.length price (fun v => must.testBit v) (fun v => mustNot.testBit v) = some b := by
  have h := wh_eq K g cap price hp must mustNot
  generalize wholeV (minR g cap price) must mustNot s = x at *
  generalize wh (par s) s.length price (fun v => must.testBit v) (fun v => mustNot.testBit v) = y at *
  cases y with
  | none => simp only [RMin] at h; simp; omega
  | some c => simp only [RMin] at h; rw [Option.some.injEq, h.1]; omega
theorem cost_le (price : Nat → Nat) (n : Nat) (hp : ∀ i, i < n → price i ≤ 20) : ∀ S : List Nat, (∀ x ∈ S, x < n) → cost price S ≤ 20 * S.length
  | [], _ => by simp [cost]
  | x :: r, h => by
    have := cost_le price n hp r fun y hy => h y (by simp [hy])
    have := hp x (h x (by simp))
    simp only [cost, List.map_cons, List.sum_cons, List.length_cons] at *
    omega
theorem fst_first {s : List Int} (K : OkS s) (g : Nat) (cap : List LV) (price : Nat → Nat) (hp : ∀ i, i < s.length → price i ≤ 20) (b : Nat) (hb : b ≤ 1000) (d : Nat) : ∀ (i : Nat) (M : List Nat) (mustNot : Nat), i + d = s.length → M ∈ asc 0 i → (∀ v, v < s.length → mustNot.testBit v = (decide (v < i) && !decide (v ∈ M))) →
    fstP (minR g cap price) s (b : Int) d i (maskN M 0) mustNot = maskN (firstG (hereC (par s) s.length price b) (moreC (par s) s.length price b) d i M) 0 := by
  induction d with
  | zero => intro i M mn _ _ _; rfl
  | succ d ih =>
    intro i M mn hi hM hmn
    have h10 := K.le
    have hMm := (mem_asc _ _ _).1 hM
    rw [fstP, firstG]
    have e1 : (wholeV (minR g cap price) (maskN M 0) (mn ||| hiB s.length i) s = (b : Int)) ↔ hereC (par s) s.length price b M i = true := by
      rw [whole_iff K g cap price hp _ _ b hb, hereC, decide_eq_true_eq]
      rw [wh_congr (par s) s.length price (a' := fun v => decide (v ∈ M)) (c' := fun v => decide (v ∉ M))]
      · intro v _; rw [maskN_bit]; simp
      · intro v hv
        rw [Nat.testBit_or, hmn v hv, hiB_bit h10]
        by_cases c : v < i
        · simp [c]
        · have : v ∉ M := fun h => by have := hMm.2 v h; omega
          simp [c, hv, this]
    have e2 : (wholeV (minR g cap price) (maskN M 0 ||| 2 ^ i) mn s = (b : Int)) ↔ moreC (par s) s.length price b M i = true := by
      rw [whole_iff K g cap price hp _ _ b hb, moreC, decide_eq_true_eq]
      rw [wh_congr (par s) s.length price (a' := fun v => decide (v ∈ M ∨ v = i)) (c' := fun v => decide (v < i ∧ v ∉ M))]
      · intro v _; rw [Nat.testBit_or, maskN_bit, Nat.testBit_two_pow]
        rw [Bool.eq_iff_iff]; simp only [Nat.zero_testBit, Bool.false_or, Bool.or_eq_true, decide_eq_true_eq, eq_comm (a := i)]
      · intro v hv
        rw [hmn v hv, Bool.eq_iff_iff]; simp
    have hM1 : M ++ [i] ∈ asc 0 (i + 1) := (mem_asc _ _ _).2 ⟨up_append hMm.1 (fun x hx => by have := hMm.2 x hx; omega) (show up i [i] from ⟨Nat.le_refl _, trivial⟩) (by omega), fun x hx => by
      rcases List.mem_append.1 hx with hx | hx
      · have := hMm.2 x hx; omega
      · simp at hx; omega⟩
    have hM2 : M ∈ asc 0 (i + 1) := (mem_asc _ _ _).2 ⟨hMm.1, fun x hx => by have := hMm.2 x hx; omega⟩
    by_cases c1 : wholeV (minR g cap price) (maskN M 0) (mn ||| hiB s.length i) s = (b : Int)
    · rw [if_pos c1, if_pos (e1.1 c1)]
    · rw [if_neg c1, if_neg (fun h => c1 (e1.2 h))]
      by_cases c2 : wholeV (minR g cap price) (maskN M 0 ||| 2 ^ i) mn s = (b : Int)
      · rw [if_pos c2, if_pos (e2.1 c2)]
        have em : maskN M 0 ||| 2 ^ i = maskN (M ++ [i]) 0 := by
          apply Nat.eq_of_testBit_eq
          intro v
          rw [Nat.testBit_or, maskN_bit, maskN_bit, Nat.testBit_two_pow, Bool.eq_iff_iff]
          simp only [Nat.zero_testBit, Bool.false_or, Bool.or_eq_true, decide_eq_true_eq, List.mem_append, List.mem_singleton, eq_comm (a := i)]
        rw [em]
        refine ih (i + 1) (M ++ [i]) mn (by omega) hM1 fun v hv => ?_
        rw [hmn v hv, Bool.eq_iff_iff]
        simp only [Bool.and_eq_true, decide_eq_true_eq, Bool.not_eq_true', decide_eq_false_iff_not, List.mem_append, List.mem_singleton, not_or]
        constructor
        · rintro ⟨a, b⟩; exact ⟨by omega, b, by omega⟩
        · rintro ⟨a, b, c⟩; exact ⟨by omega, b⟩
      · rw [if_neg c2, if_neg (fun h => c2 (e2.2 h))]
        refine ih (i + 1) M (mn ||| 2 ^ i) (by omega) hM2 fun v hv => ?_
        rw [Nat.testBit_or, hmn v hv, Nat.testBit_two_pow, Bool.eq_iff_iff]
        simp only [Bool.and_eq_true, decide_eq_true_eq, Bool.not_eq_true', decide_eq_false_iff_not, Bool.or_eq_true]
        constructor
        · rintro (⟨a, b⟩ | a)
          · exact ⟨by omega, b⟩
          · subst a; exact ⟨by omega, fun h => by have := hMm.2 _ h; omega⟩
        · rintro ⟨a, b⟩
          by_cases c : i = v
          · exact .inr c
          · exact .inl ⟨by omega, b⟩
/-- The least cost, and the first posts that have it. -/
def bestC (s : List Int) (price : Nat → Nat) : Nat := (wh (par s) s.length price (fun _ => false) (fun _ => false)).getD 0
def firstS (s : List Int) (price : Nat → Nat) : List Nat := firstG (hereC (par s) s.length price (bestC s price)) (moreC (par s) s.length price (bestC s price)) s.length 0 []
theorem best_ok (s : List Int) (price : Nat → Nat) : wh (par s) s.length price (fun _ => false) (fun _ => false) = some (bestC s price) := by
  obtain ⟨b, hb, _⟩ := wh_best (par s) s.length price
  rw [bestC, hb]; rfl
theorem best_le {s : List Int} (K : OkS s) (price : Nat → Nat) (hp : ∀ i, i < s.length → price i ≤ 20) : bestC s price ≤ 200 := by
  obtain ⟨b, hb, h⟩ := wh_best (par s) s.length price
  have e := best_ok s price
  rw [hb] at e
  have e := Option.some.inj e
  have := cost_le price s.length hp (List.range s.length) fun x hx => by simpa using hx
  have := K.le
  simp only [List.length_range] at *
  omega
theorem firstS_find (s : List Int) (price : Nat → Nat) : (asc 0 s.length).find? (goodC (par s) s.length price (bestC s price)) = some (firstS s price) := firstC_ok (par s) s.length price _ (best_ok s price)
theorem firstS_asc (s : List Int) (price : Nat → Nat) : firstS s price ∈ asc 0 s.length := List.mem_of_find?_eq_some (firstS_find s price)
theorem first_eq {s : List Int} (K : OkS s) (g : Nat) (cap : List LV) (price : Nat → Nat) (hp : ∀ i, i < s.length → price i ≤ 20) : memL (firstM (minR g cap price) s) = firstS s price := by
  have hb := best_le K price hp
  have e : wholeV (minR g cap price) 0 0 s = (bestC s price : Int) := by
    rw [whole_iff K g cap price hp 0 0 _ (by omega), ← best_ok s price]
    exact wh_congr _ _ _ (fun v _ => Nat.zero_testBit v) (fun v _ => Nat.zero_testBit v)
  rw [firstM, e]
  have := fst_first K g cap price hp (bestC s price) (by omega) s.length 0 [] 0 (by omega) (by simp [asc]) (fun v _ => by simp)
  rw [show maskN [] 0 = 0 from rfl] at this
  rw [this]
  exact memL_mask K.le (firstS_asc s price)
end Go.Am.Post

