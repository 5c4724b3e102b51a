import Derived.Test.YthnaeifkngeenaaPostP2
/-
  Plain: the cheapest posts, place by place. No statement of the seat is proved here.
-/
set_option linter.unusedVariables false
set_option linter.unusedSimpArgs false
namespace Go.Am.Post
open SR
variable (par : Nat → Nat) (n : Nat) (price : Nat → Nat)

def dom (S : List Nat) : Bool := allN (okS par (fun _ => false) (fun _ => false) S) n
def cost (S : List Nat) : Nat := (S.map price).sum
def cst (S : List Nat) : Nat → Nat
  | 0 => 0
  | k + 1 => cst S k + if k ∈ S then price k else 0
theorem cst_append (S : List Nat) (x : Nat) (hx : x ∉ S) : ∀ k, cst price (S ++ [x]) k = cst price S k + if x < k then price x else 0
  | 0 => by simp [cst]
  | k + 1 => by
    rw [cst, cst, cst_append S x hx k]
    by_cases h : k = x
    · subst h; simp [hx]
    · have : (x < k + 1) = (x < k) := by rw [eq_iff_iff]; omega
      simp only [List.mem_append, List.mem_singleton, h, or_false, this]; omega
theorem cst_cost (k : Nat) (S : List Nat) (h : S ∈ asc 0 k) : cst price S k = cost price S := by
  induction k generalizing S with
  | zero => simp [asc] at h; subst h; simp [cst, cost]
  | succ k ih =>
    have hm := (mem_asc _ _ _).1 h
    by_cases hk : k ∈ S
    · have e : S = S.filter (fun x => decide (x < k)) ++ [k] := by
        have h1 := up_split k hm.1
        have h2 : S.filter (fun x => decide (k ≤ x)) = [k] := by
          refine up_ext (i := 0) (up_filter _ hm.1) (b := [k]) ⟨by omega, trivial⟩ fun x => ?_
          simp only [List.mem_filter, decide_eq_true_eq, List.mem_singleton]
          constructor
          · rintro ⟨a, b⟩; have := hm.2 x a; omega
          · rintro rfl; exact ⟨hk, Nat.le_refl _⟩
        rw [h2] at h1; exact h1
      have h0 : S.filter (fun x => decide (x < k)) ∈ asc 0 k := (mem_asc _ _ _).2 ⟨up_filter _ hm.1, fun x hx => by simp at hx; omega⟩
      have hn : k ∉ S.filter (fun x => decide (x < k)) := by simp
      have := ih _ h0
      rw [e, cst, cst_append _ _ _ hn, this]
      simp [cost]
    · rw [cst, if_neg hk, ih S ((mem_asc _ _ _).2 ⟨hm.1, fun x hx => by
        have := hm.2 x hx
        have : x ≠ k := fun e => hk (e ▸ hx)
        omega⟩)]
      simp
theorem costN_minp (S : List Nat) : ∀ k, costN (K := MinP) (fun v => some (price v)) S k = some (cst price S k)
  | 0 => rfl
  | k + 1 => by
    have := costN_minp S k
    unfold costN at *
    rw [prodN, this, cst]
    by_cases h : k ∈ S
    · simp [h, SR.mul, MinP.mul]
    · simp [h, SR.mul, MinP.mul, SR.one]
theorem okS_iff (must mustNot : Nat → Bool) (S : List Nat) : allN (okS par must mustNot S) n = true ↔ dom par n S = true ∧ (∀ v, v < n → must v = true → v ∈ S) ∧ (∀ v, v < n → v ∈ S → mustNot v = false) := by
  unfold dom
  rw [allN_iff, allN_iff]
  constructor
  · intro h
    refine ⟨fun v hv => ?_, fun v hv hm => ?_, fun v hv hm => ?_⟩
    · have := h v hv
      unfold okS at *
      split at this <;> simp_all
    · have := h v hv
      unfold okS at this
      split at this
      · assumption
      · simp [hm] at this
    · have := h v hv
      unfold okS at this
      simpa [hm] using this
  · rintro ⟨h1, h2, h3⟩ v hv
    have a := h1 v hv
    unfold okS at *
    by_cases hS : v ∈ S
    · simp [hS, h3 v hv hS]
    · have : must v = false := by rw [Bool.eq_false_iff]; intro h; exact hS (h2 v hv h)
      simp only [hS, if_false, this] at *
      exact a
/-- The least cost of posts that guard, with some and without others. -/
def wh (must mustNot : Nat → Bool) : MinP := sumL (fun S => if allN (okS par must mustNot S) n then (some (cost price S) : MinP) else none) (asc 0 n)
theorem wh_some (must mustNot : Nat → Bool) (b : Nat) : wh par n price must mustNot = some b ↔ (∃ S ∈ asc 0 n, (dom par n S = true ∧ (∀ v, v < n → must v = true → v ∈ S) ∧ (∀ v, v < n → v ∈ S → mustNot v = false)) ∧ cost price S = b) ∧ ∀ S ∈ asc 0 n, (dom par n S = true ∧ (∀ v, v < n → must v = true → v ∈ S) ∧ (∀ v, v < n → v ∈ S → mustNot v = false)) → b ≤ cost price S := by
  unfold wh
  rw [minp_some (fun S => allN (okS par must mustNot S) n)]
  simp only [okS_iff]
theorem wh_none (must mustNot : Nat → Bool) : wh par n price must mustNot = none ↔ ∀ S ∈ asc 0 n, ¬ (dom par n S = true ∧ (∀ v, v < n → must v = true → v ∈ S) ∧ (∀ v, v < n → v ∈ S → mustNot v = false)) := by
  unfold wh
  rw [minp_none (fun S => allN (okS par must mustNot S) n)]
  constructor
  · intro h S hS hc
    rw [← okS_iff] at hc
    rw [h S hS] at hc; cases hc
  · intro h S hS
    rw [Bool.eq_false_iff]; intro hc
    exact h S hS ((okS_iff _ _ _ _ _).1 hc)

def all (n : Nat) : List Nat := List.range n
theorem up_range' : ∀ (d i : Nat), up i (List.range' i d)
  | 0, _ => trivial
  | d + 1, i => ⟨Nat.le_refl _, up_range' d (i + 1)⟩
theorem range_asc : List.range n ∈ asc 0 n := (mem_asc _ _ _).2 ⟨by rw [List.range_eq_range']; exact up_range' n 0, fun x hx => by simpa using hx⟩
theorem dom_range : dom par n (List.range n) = true := by
  rw [dom, allN_iff]
  intro v hv
  simp [okS, hv]
/-- There is a least cost. -/
theorem wh_best : ∃ b, wh par n price (fun _ => false) (fun _ => false) = some b ∧ b ≤ cost price (List.range n) := by
  cases h : wh par n price (fun _ => false) (fun _ => false) with
  | none => exact absurd ⟨dom_range par n, by simp, by simp⟩ ((wh_none _ _ _ _ _).1 h _ (range_asc n))
  | some b => exact ⟨b, rfl, ((wh_some _ _ _ _ _ b).1 h).2 _ (range_asc n) ⟨dom_range par n, by simp, by simp⟩⟩

def goodC (b : Nat) (S : List Nat) : Bool := dom par n S && decide (cost price S = b)
def hereC (b : Nat) (M : List Nat) (i : Nat) : Bool := decide (wh par n price (fun v => decide (v ∈ M)) (fun v => decide (v ∉ M)) = some b)
def moreC (b : Nat) (M : List Nat) (i : Nat) : Bool := decide (wh par n price (fun v => decide (v ∈ M ∨ v = i)) (fun v => decide (v < i ∧ v ∉ M)) = some b)
theorem hereC_ok (b : Nat) (hb : wh par n price (fun _ => false) (fun _ => false) = some b) (i : Nat) (M : List Nat) (hi : i < n) (hM : M ∈ asc 0 i) : hereC par n price b M i = true ↔ goodC par n price b M = true := by
  have hMm := (mem_asc _ _ _).1 hM
  have hmin := ((wh_some _ _ _ _ _ _).1 hb).2
  unfold hereC goodC
  rw [decide_eq_true_eq, wh_some, Bool.and_eq_true, decide_eq_true_eq]
  constructor
  · rintro ⟨⟨S, hS, ⟨h1, h2, h3⟩, h4⟩, _⟩
    have e : S = M := up_ext ((mem_asc _ _ _).1 hS).1 hMm.1 fun x => by
      constructor
      · intro hx
        have := h3 x (by have := ((mem_asc _ _ _).1 hS).2 x hx; omega) hx
        simpa using this
      · intro hx; exact h2 x (by have := hMm.2 x hx; omega) (by simpa using hx)
    subst e
    exact ⟨h1, h4⟩
  · rintro ⟨h1, h2⟩
    refine ⟨⟨M, (mem_asc _ _ _).2 ⟨hMm.1, fun x hx => by have := hMm.2 x hx; omega⟩, ⟨h1, fun v _ hv => by simpa using hv, fun v _ hv => by simpa using hv⟩, h2⟩, fun S hS ⟨h3, _, _⟩ => hmin S hS ⟨h3, by simp, by simp⟩⟩
theorem moreC_ok (b : Nat) (hb : wh par n price (fun _ => false) (fun _ => false) = some b) (i : Nat) (M : List Nat) (hi : i < n) (hM : M ∈ asc 0 i) : moreC par n price b M i = true ↔ ∃ S ∈ asc (i + 1) (n - (i + 1)), goodC par n price b (M ++ i :: S) = true := by
  have hMm := (mem_asc _ _ _).1 hM
  have hmin := ((wh_some _ _ _ _ _ _).1 hb).2
  unfold moreC
  rw [decide_eq_true_eq, wh_some]
  constructor
  · rintro ⟨⟨S, hS, ⟨h1, h2, h3⟩, h4⟩, _⟩
    have hSm := (mem_asc _ _ _).1 hS
    have e1 : S.filter (fun x => decide (x < i)) = M := up_ext (up_filter _ hSm.1) hMm.1 fun x => by
      simp only [List.mem_filter, decide_eq_true_eq]
      constructor
      · rintro ⟨hx, hl⟩
        have := h3 x (by omega) hx
        simp only [decide_eq_false_iff_not] at this
        by_cases hxM : x ∈ M
        · exact hxM
        · exact absurd ⟨hl, hxM⟩ this
      · intro hx
        have := hMm.2 x hx
        exact ⟨h2 x (by omega) (by simp [hx]), by omega⟩
    have e2 : S.filter (fun x => decide (i ≤ x)) = i :: S.filter (fun x => decide (i + 1 ≤ x)) := by
      refine up_ext (i := 0) (up_filter _ hSm.1) ⟨by omega, ?_⟩ fun x => ?_
      · have : ∀ {l : List Nat} {j : Nat}, up j l → (∀ x ∈ l, i + 1 ≤ x) → up (i + 1) l := by
          intro l j h hl
          cases l with
          | nil => trivial
          | cons y r => exact ⟨hl y (by simp), h.2⟩
        exact this (up_filter _ hSm.1) fun x hx => by simp at hx; omega
      · simp only [List.mem_filter, decide_eq_true_eq, List.mem_cons]
        constructor
        · rintro ⟨hx, hl⟩
          by_cases e : x = i
          · exact .inl e
          · exact .inr ⟨hx, by omega⟩
        · rintro (rfl | ⟨hx, hl⟩)
          · exact ⟨h2 x hi (by simp), Nat.le_refl _⟩
          · exact ⟨hx, by omega⟩
    have e := up_split i hSm.1
    rw [e1, e2] at e
    refine ⟨S.filter (fun x => decide (i + 1 ≤ x)), (mem_asc _ _ _).2 ⟨?_, fun x hx => ?_⟩, ?_⟩
    · have := up_filter (fun x => decide (i ≤ x)) hSm.1
      rw [e2] at this
      exact this.2
    · simp only [List.mem_filter, decide_eq_true_eq] at hx
      have := hSm.2 x hx.1; omega
    · rw [← e, goodC, h1, h4]; simp
  · rintro ⟨S, hS, hg⟩
    have hSm := (mem_asc _ _ _).1 hS
    simp only [goodC, Bool.and_eq_true, decide_eq_true_eq] at hg
    refine ⟨⟨M ++ i :: S, (mem_asc _ _ _).2 ⟨up_append hMm.1 (fun x hx => by have := hMm.2 x hx; omega) (show up i (i :: S) from ⟨Nat.le_refl _, hSm.1⟩) (by omega), fun x hx => ?_⟩, ⟨hg.1, fun v _ hv => ?_, fun v _ hv => ?_⟩, hg.2⟩, fun S hS ⟨h3, _, _⟩ => hmin S hS ⟨h3, by simp, by simp⟩⟩
    · simp only [List.mem_append, List.mem_cons] at hx
      rcases hx with hx | rfl | hx
      · have := hMm.2 x hx; omega
      · omega
      · have := hSm.2 x hx; omega
    · simp only [decide_eq_true_eq] at hv
      rcases hv with hv | rfl <;> simp [*]
    · simp only [decide_eq_false_iff_not]
      rintro ⟨hl, hvM⟩
      simp only [List.mem_append, List.mem_cons] at hv
      rcases hv with hv | rfl | hv
      · exact hvM hv
      · omega
      · have := up_ge hSm.1 v hv; omega
/-- The first of the cheapest posts. -/
theorem firstC_ok (b : Nat) (hb : wh par n price (fun _ => false) (fun _ => false) = some b) : (asc 0 n).find? (goodC par n price b) = some (firstG (hereC par n price b) (moreC par n price b) n 0 []) := by
  obtain ⟨⟨S, hS, ⟨h1, _⟩, h2⟩, _⟩ := (wh_some _ _ _ _ _ _).1 hb
  obtain ⟨S0, f1, f2⟩ := first_ok n (goodC par n price b) _ _ (hereC_ok par n price b hb) (moreC_ok par n price b hb) n 0 [] (by omega) (by simp [asc]) ⟨S, hS, by simp [goodC, h1, h2]⟩
  rw [f2]
  simpa using f1
end Go.Am.Post

/-
  Plain: the most places that are apart, place by place. No statement of the seat is proved here.
-/
set_option linter.unusedVariables false
set_option linter.unusedSimpArgs false
namespace Go.Am.Post
variable (h : Nat → Nat)

/-- Places that come one after the other, none with something met already. -/
def fits : Nat → List Nat → Bool
  | _, [] => true
  | met, x :: r => decide (h x &&& met = 0) && fits (met ||| h x) r
def mostM : Nat → Nat → Nat → Nat
  | 0, _, _ => 0
  | d + 1, i, met => if h i &&& met = 0 then max (1 + mostM d (i + 1) (met ||| h i)) (mostM d (i + 1) met) else mostM d (i + 1) met
def grM : Nat → Nat → Nat → List Nat
  | 0, _, _ => []
  | d + 1, i, met => if h i &&& met = 0 ∧ 1 + mostM h d (i + 1) (met ||| h i) = mostM h (d + 1) i met then i :: grM d (i + 1) (met ||| h i) else grM d (i + 1) met
theorem asc_succ_mem {i d : Nat} {l : List Nat} (hl : l ∈ asc i (d + 1)) : (∃ r ∈ asc (i + 1) d, l = i :: r) ∨ l ∈ asc (i + 1) d := by
  have hm := (mem_asc _ _ _).1 hl
  cases l with
  | nil => right; exact (mem_asc _ _ _).2 ⟨trivial, by simp⟩
  | cons x r =>
    by_cases e : x = i
    · subst e
      left
      exact ⟨r, (mem_asc _ _ _).2 ⟨hm.1.2, fun y hy => by have := hm.2 y (by simp [hy]); omega⟩, rfl⟩
    · right
      exact (mem_asc _ _ _).2 ⟨⟨by have := hm.1.1; omega, hm.1.2⟩, fun y hy => by have := hm.2 y hy; omega⟩
theorem most_le (d : Nat) : ∀ i met S, S ∈ asc i d → fits h met S = true → S.length ≤ mostM h d i met := by
  induction d with
  | zero => intro i met S hS _; simp [asc] at hS; subst hS; simp
  | succ d ih =>
    intro i met S hS hf
    rw [mostM]
    rcases asc_succ_mem hS with ⟨r, hr, rfl⟩ | hr
    · simp only [fits, Bool.and_eq_true, decide_eq_true_eq] at hf
      have := ih _ _ _ hr hf.2
      rw [if_pos hf.1]; simp only [List.length_cons]; omega
    · have := ih _ _ _ hr hf
      split <;> omega
theorem gr_find (d : Nat) : ∀ i met, (asc i d).find? (fun S => fits h met S && decide (S.length = mostM h d i met)) = some (grM h d i met) := by
  induction d with
  | zero => intro i met; simp [asc, fits, mostM, grM]
  | succ d ih =>
    intro i met
    rw [show asc i (d + 1) = [] :: ((asc (i + 1) d).map (i :: ·) ++ (asc (i + 1) d).tail) from rfl, List.find?_cons]
    by_cases hb : mostM h (d + 1) i met = 0
    · have h0 : mostM h d (i + 1) met = 0 := by rw [mostM] at hb; split at hb <;> omega
      have hi := ih (i + 1) met
      rw [h0, asc_head] at hi
      simp only [List.find?_cons, fits, List.length_nil, decide_true, Bool.and_true, Option.some.injEq] at hi
      simp only [hb, fits, List.length_nil, decide_true, Bool.and_true]
      rw [grM, if_neg (by omega), ← hi]
    · have hb' : ¬ 0 = mostM h (d + 1) i met := fun e => hb e.symm
      simp only [fits, List.length_nil, hb', decide_false, Bool.and_false, List.find?_append, find_map, List.length_cons]
      rw [grM]
      by_cases hc : h i &&& met = 0 ∧ 1 + mostM h d (i + 1) (met ||| h i) = mostM h (d + 1) i met
      · rw [if_pos hc]
        have hi := ih (i + 1) (met ||| h i)
        have e : (fun x : List Nat => decide (h i &&& met = 0) && fits h (met ||| h i) x && decide (x.length + 1 = mostM h (d + 1) i met)) = fun S => fits h (met ||| h i) S && decide (S.length = mostM h d (i + 1) (met ||| h i)) := by
          funext x
          rw [← hc.2]
          simp only [hc.1, decide_true, Bool.true_and]
          congr 2
          rw [eq_iff_iff]; omega
        rw [e, hi]; rfl
      · rw [if_neg hc]
        have hmx : mostM h (d + 1) i met = mostM h d (i + 1) met := by
          rw [mostM] at hc ⊢
          by_cases hf : h i &&& met = 0
          · rw [if_pos hf] at hc ⊢; omega
          · rw [if_neg hf]
        have e : (asc (i + 1) d).find? (fun x : List Nat => decide (h i &&& met = 0) && fits h (met ||| h i) x && decide (x.length + 1 = mostM h (d + 1) i met)) = none := by
          rw [List.find?_eq_none]
          intro x hx
          simp only [Bool.and_eq_true, decide_eq_true_eq]
          rintro ⟨⟨h1, h2⟩, h3⟩
          have := most_le h d _ _ _ hx h2
          rw [mostM, if_pos h1] at hc h3
          exact hc ⟨h1, by omega⟩
        rw [e, hmx]
        have hi := ih (i + 1) met
        rw [asc_head, List.find?_cons] at hi
        simp only [fits, List.length_nil, show ¬ 0 = mostM h d (i + 1) met by omega, decide_false, Bool.and_false] at hi
        simpa using hi
theorem and_or_zero (a b c : Nat) : a &&& (b ||| c) = 0 ↔ a &&& b = 0 ∧ a &&& c = 0 := by
  rw [Nat.and_or_distrib_left, Nat.or_eq_zero_iff]
theorem fits_iff : ∀ (l : List Nat) (met : Nat), fits h met l = true ↔ (∀ x ∈ l, h x &&& met = 0) ∧ l.Pairwise fun a b => h a &&& h b = 0
  | [], met => by simp [fits]
  | x :: r, met => by
    simp only [fits, Bool.and_eq_true, decide_eq_true_eq, fits_iff r, List.mem_cons, forall_eq_or_imp, List.pairwise_cons, and_or_zero]
    constructor
    · rintro ⟨h1, h2, h3⟩
      exact ⟨⟨h1, fun a ha => (h2 a ha).1⟩, fun b hb => by rw [Nat.and_comm]; exact (h2 b hb).2, h3⟩
    · rintro ⟨⟨h1, h2⟩, h3, h4⟩
      exact ⟨h1, fun b hb => ⟨h2 b hb, by rw [Nat.and_comm]; exact h3 b hb⟩, h4⟩

/-- The first of the longest lists. -/
def longF (p : List Nat → Bool) : List Nat → List (List Nat) → List Nat
  | b, [] => b
  | b, l :: r => if l.length > b.length ∧ p l = true then longF p l r else longF p b r
theorem long_find (p : List Nat → Bool) (k : Nat) : ∀ (L : List (List Nat)) (b : List Nat), (∀ l ∈ L, p l = true → l.length ≤ k) → b.length < k → (∃ l ∈ L, p l = true ∧ l.length = k) → L.find? (fun l => p l && decide (l.length = k)) = some (longF p b L)
  | [], b, _, _, ⟨l, hl, _⟩ => by cases hl
  | l :: r, b, h1, h2, ⟨q, hq, hp, hk⟩ => by
    rw [longF, List.find?_cons]
    by_cases hc : p l = true ∧ l.length = k
    · have : (p l && decide (l.length = k)) = true := by simp [hc]
      rw [this, if_pos ⟨by omega, hc.1⟩]
      have hst : ∀ (L : List (List Nat)) (b : List Nat), b.length = k → (∀ l ∈ L, p l = true → l.length ≤ k) → longF p b L = b := by
        intro L
        induction L with
        | nil => intros; rfl
        | cons a s ih =>
          intro b hb hL
          rw [longF, if_neg]
          · exact ih b hb fun x hx => hL x (by simp [hx])
          · rintro ⟨ha, hpa⟩
            have := hL a (by simp) hpa; omega
      rw [hst r l hc.2 fun x hx => h1 x (by simp [hx])]
    · have : (p l && decide (l.length = k)) = false := by
        rw [Bool.eq_false_iff]; simpa using fun a b => hc ⟨a, b⟩
      rw [this]
      have hq' : q ∈ r := by
        rcases List.mem_cons.1 hq with rfl | hq
        · exact absurd ⟨hp, hk⟩ hc
        · exact hq
      by_cases hl : l.length > b.length ∧ p l = true
      · rw [if_pos hl]
        have := h1 l (by simp) hl.2
        exact long_find p k r l (fun x hx => h1 x (by simp [hx])) (by have : l.length ≠ k := fun e => hc ⟨hl.2, e⟩; omega) ⟨q, hq', hp, hk⟩
      · rw [if_neg hl]
        exact long_find p k r b (fun x hx => h1 x (by simp [hx])) h2 ⟨q, hq', hp, hk⟩
/-- The longest list that fits is what place by place is found. -/
theorem long_gr (n : Nat) : longF (fits h 0) [] (asc 0 n) = grM h n 0 0 := by
  have hf := gr_find h n 0 0
  by_cases h0 : mostM h n 0 0 = 0
  · have e1 : grM h n 0 0 = [] := by
      rw [h0, asc_head, List.find?_cons] at hf
      simpa [fits] using hf.symm
    rw [e1]
    have : ∀ L : List (List Nat), (∀ l ∈ L, fits h 0 l = true → l.length ≤ 0) → longF (fits h 0) [] L = [] := by
      intro L
      induction L with
      | nil => intros; rfl
      | cons a s ih =>
        intro hL
        rw [longF, if_neg]
        · exact ih fun x hx => hL x (by simp [hx])
        · rintro ⟨ha, hpa⟩
          have := hL a (by simp) hpa
          simp only [List.length_nil] at ha; omega
    exact this _ fun l hl hp => by have := most_le h n 0 0 l hl hp; omega
  · have := List.find?_some hf
    simp only [Bool.and_eq_true, decide_eq_true_eq] at this
    have hm := List.mem_of_find?_eq_some hf
    have := long_find (fits h 0) (mostM h n 0 0) (asc 0 n) [] (fun l hl hp => most_le h n 0 0 l hl hp) (by simp; omega) ⟨_, hm, this.1, this.2⟩
    rw [hf] at this
    exact (Option.some.inj this).symm
end Go.Am.Post


