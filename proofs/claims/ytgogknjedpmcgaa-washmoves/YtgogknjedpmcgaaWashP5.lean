/-
  Plain: where things are after any number of tides, and when a thing comes to a place. No statement of the seat is proved here.
-/
import Derived.Test.YtgogknjedpmcgaaWashP4
set_option linter.unusedVariables false
set_option linter.unusedSimpArgs false
namespace Go.Am.Wash

theorem nth_at' (t : List Nat) (i : Nat) (h : i < t.length) : nth t i = t[i] := by rw [nth_getD]; simp [List.getD_eq_getElem?_getD, h]
theorem nth_set (o : List Nat) (i v x : Nat) (h : i < o.length) : nth (o.set i v) x = if x = i then v else nth o x := by
  simp only [nth_getD, List.getD_eq_getElem?_getD, List.getElem?_set]
  by_cases c : i = x
  · subst c; simp [h]
  · have : ¬ x = i := fun e => c e.symm
    simp [c, this]
def aIn (l : List Nat) (T : Int) : Nat → Nat → List Nat → List Nat
  | 0, _, o => o
  | n + 1, i, o => aIn l T n (i + 1) (o.set (nth l i) (nth l (idxI i T l.length).toNat))
def aOut (T : Int) : List (List Nat) → List Nat → List Nat
  | [], o => o
  | l :: r, o => aOut T r (aIn l T l.length 0 o)
theorem aIn_len (l : List Nat) (T : Int) (n : Nat) : ∀ i o, (aIn l T n i o).length = o.length := by
  induction n with
  | zero => intro i o; rfl
  | succ n ih => intro i o; rw [aIn, ih]; simp
theorem aOut_len (T : Int) : ∀ (R : List (List Nat)) (o : List Nat), (aOut T R o).length = o.length
  | [], o => rfl
  | l :: r, o => by rw [aOut, aOut_len T r, aIn_len]
def Ck (t : List Nat) (k : Nat) (o : List Nat) (x : Nat) : Prop := nth o x = it t k x
theorem val_ok {t : List Nat} {l : List Nat} {p n : Nat} (hl : l = orb t p l.length) (hp : it t l.length p = p) (hm : 0 < l.length) (hn : n % l.length = 0) (hn0 : 0 < n) (T : Int) (i : Nat) (hi : i < l.length) :
    nth l (idxI i T l.length).toNat = it t (T % (n : Int)).toNat (nth l i) := by
  have he : idxI i T l.length = ((i : Int) + T) % (l.length : Int) := tmod2 _ _ hm
  have h1 : 0 ≤ ((i : Int) + T) % (l.length : Int) := Int.emod_nonneg _ (by omega)
  have h2 : ((i : Int) + T) % (l.length : Int) < (l.length : Int) := Int.emod_lt_of_pos _ (by omega)
  have h3 : 0 ≤ T % (n : Int) := Int.emod_nonneg _ (by omega)
  obtain ⟨e, hee⟩ := Int.eq_ofNat_of_zero_le h1
  obtain ⟨k, hk⟩ := Int.eq_ofNat_of_zero_le h3
  rw [he, hee, hk, Int.toNat_natCast, Int.toNat_natCast]
  have hel : e < l.length := by omega
  have a1 : nth l e = it t e p := by conv => lhs; rw [hl]
                                     exact orb_at t p _ e hel
  have a2 : nth l i = it t i p := by conv => lhs; rw [hl]
                                     exact orb_at t p _ i hi
  rw [a1, a2, ← it_add]
  have hmod : (k + i) % l.length = e := by
    have hd : (l.length : Int) ∣ (n : Int) := by
      have := Nat.dvd_of_mod_eq_zero hn
      exact Int.natCast_dvd_natCast.2 this
    have h4 : ((k : Int) + (i : Int)) % (l.length : Int) = (e : Int) := by
      rw [← hk, ← hee, Int.add_emod, Int.emod_emod_of_dvd _ hd, ← Int.add_emod, Int.add_comm]
    have h5 : (((k + i) % l.length : Nat) : Int) = ((k : Int) + (i : Int)) % (l.length : Int) := by simp
    omega
  rw [← it_mod t l.length p hp (k + i), hmod]
theorem aIn_ok {t : List Nat} {l : List Nat} {p n : Nat} (hl : l = orb t p l.length) (hp : it t l.length p = p) (hm : 0 < l.length) (hn : n % l.length = 0) (hn0 : 0 < n) (T : Int) (hx : ∀ x ∈ l, x < t.length) (d : Nat) : ∀ (i : Nat) (o : List Nat), i + d = l.length → o.length = t.length →
    (∀ x, Ck t (T % (n : Int)).toNat o x → Ck t (T % (n : Int)).toNat (aIn l T d i o) x) ∧ ∀ j, i ≤ j → j < l.length → Ck t (T % (n : Int)).toNat (aIn l T d i o) (nth l j) := by
  induction d with
  | zero => intro i o hi ho; exact ⟨fun x h => h, fun j h1 h2 => by omega⟩
  | succ d ih =>
    intro i o hi ho
    have hil : i < l.length := by omega
    have hv := val_ok hl hp hm hn hn0 T i hil
    have hlt : nth l i < o.length := by rw [ho, nth_at' l i hil]; exact hx _ (List.getElem_mem hil)
    obtain ⟨g1, g2⟩ := ih (i + 1) (o.set (nth l i) (nth l (idxI i T l.length).toNat)) (by omega) (by simpa using ho)
    have hC : ∀ x, Ck t (T % (n : Int)).toNat o x ∨ x = nth l i → Ck t (T % (n : Int)).toNat (o.set (nth l i) (nth l (idxI i T l.length).toNat)) x := by
      intro x h
      unfold Ck at *
      rw [nth_set _ _ _ _ hlt]
      by_cases c : x = nth l i
      · rw [if_pos c, hv, c]
      · rw [if_neg c]
        exact h.resolve_right c
    rw [aIn]
    refine ⟨fun x h => g1 x (hC x (.inl h)), fun j h1 h2 => ?_⟩
    by_cases c : j = i
    · subst c; exact g1 _ (hC _ (.inr rfl))
    · exact g2 j (by omega) h2
theorem mem_nth {l : List Nat} {x : Nat} (h : x ∈ l) : ∃ j, j < l.length ∧ nth l j = x := by
  obtain ⟨j, hj, e⟩ := List.getElem_of_mem h
  exact ⟨j, hj, by rw [nth_at' l j hj, e]⟩
/-- When all is back is after some tides at least. -/
theorem bkF_pos (t id : List Nat) (n : Nat) (f : Nat) : ∀ k now, 0 < k → bkF t id f k now = some n → 0 < n := by
  induction f with
  | zero => intro k now _ h; cases h
  | succ f ih =>
    intro k now hk h
    rw [bkF] at h
    cases e : eqN now id
    · rw [e, cond_false] at h; exact ih _ _ (by omega) h
    · rw [e, cond_true] at h; have := Option.some.inj h; omega
theorem Known.npos {t : List Nat} {R : List (List Nat)} {n : Nat} (K : Known t R n) : 0 < n := bkF_pos _ _ _ _ _ _ (by omega) K.bk
theorem aOut_ok {t : List Nat} {R0 : List (List Nat)} {n : Nat} (K : Known t R0 n) (T : Int) : ∀ (R : List (List Nat)) (o : List Nat), (∀ l ∈ R, l ∈ R0) → o.length = t.length →
    (∀ x, Ck t (T % (n : Int)).toNat o x → Ck t (T % (n : Int)).toNat (aOut T R o) x) ∧ ∀ l ∈ R, ∀ x ∈ l, Ck t (T % (n : Int)).toNat (aOut T R o) x
  | [], o, _, _ => ⟨fun x h => h, by simp⟩
  | l :: r, o, hR, ho => by
    obtain ⟨r1, r2, r3, r4⟩ := K.rows l (hR l (by simp))
    obtain ⟨p, hl, hp⟩ := K.ring (hR l (by simp))
    obtain ⟨a1, a2⟩ := aIn_ok hl hp r1 r3 K.npos T r4 l.length 0 o (by omega) ho
    obtain ⟨b1, b2⟩ := aOut_ok K T r (aIn l T l.length 0 o) (fun x hx => hR x (by simp [hx])) (by rw [aIn_len, ho])
    rw [aOut]
    refine ⟨fun x h => b1 x (a1 x h), fun l' hl' x hx => ?_⟩
    rcases List.mem_cons.1 hl' with rfl | hl'
    · obtain ⟨j, hj, e⟩ := mem_nth hx
      exact b1 x (by rw [← e]; exact a2 j (by omega) hj)
    · exact b2 l' hl' x hx
/-- After so many tides. -/
def aftV (t : List Nat) (k : Nat) : List Nat := (List.range t.length).map (it t k)
theorem list_nth_ext {a b : List Nat} (h : a.length = b.length) (h2 : ∀ x, x < a.length → nth a x = nth b x) : a = b := by
  apply List.ext_getElem h
  intro i h3 h4
  have := h2 i h3
  rw [nth_at' a i h3, nth_at' b i h4] at this
  exact this
theorem aft_prog {t : List Nat} {R : List (List Nat)} {n : Nat} (K : Known t R n) (T : Int) : aOut T R (List.replicate t.length 0) = aftV t (T % (n : Int)).toNat := by
  apply list_nth_ext
  · rw [aOut_len]; simp [aftV]
  · intro x hx
    rw [aOut_len, List.length_replicate] at hx
    obtain ⟨l, hl, hxl⟩ := K.cov x hx
    have := (aOut_ok K T R (List.replicate t.length 0) (fun l h => h) (by simp)).2 l hl x hxl
    rw [this, nth_getD, aftV, List.getD_eq_getElem?_getD]
    simp [hx]
theorem aftV_succ (t : List Nat) (k : Nat) : (aftV t k).map (nth t) = aftV t (k + 1) := by
  simp [aftV, it, Function.comp_def]
theorem aftV_zero (t : List Nat) : aftV t 0 = List.range t.length := by simp [aftV, it]

/-! ### When -/
def whF (t : List Nat) (to : Nat) : Nat → Nat → Nat → Option Nat
  | 0, _, _ => none
  | n + 1, k, x => if x = to then some k else whF t to n (k + 1) (nth t x)
def fiL (to : Nat) : List Nat → Nat → Option Nat
  | [], _ => none
  | x :: r, k => if x = to then some k else fiL to r (k + 1)
theorem fiL_orb (t : List Nat) (to p : Nat) (d : Nat) : ∀ j, fiL to ((List.range' j d).map fun i => it t i p) j = whF t to d j (it t j p) := by
  induction d with
  | zero => intro j; rfl
  | succ d ih =>
    intro j
    rw [List.range'_succ, List.map_cons, fiL, whF, ih (j + 1)]
    rfl
theorem whF_none (t : List Nat) (to p : Nat) (d : Nat) : ∀ j, whF t to d j (it t j p) = none ↔ ∀ i, j ≤ i → i < j + d → it t i p ≠ to := by
  induction d with
  | zero => intro j; simp [whF]; intros; omega
  | succ d ih =>
    intro j
    rw [whF]
    by_cases c : it t j p = to
    · simp only [c, if_true, reduceCtorEq, false_iff]
      intro h
      exact h j (Nat.le_refl _) (by omega) c
    · rw [if_neg c, show nth t (it t j p) = it t (j + 1) p from rfl, ih]
      constructor
      · intro h i h1 h2
        by_cases e : i = j
        · subst e; exact c
        · exact h i (by omega) (by omega)
      · intro h i h1 h2; exact h i (by omega) (by omega)
theorem whF_add (t : List Nat) (to p : Nat) (d e : Nat) : ∀ j, whF t to (d + e) j (it t j p) = match whF t to d j (it t j p) with | some k => some k | none => whF t to e (j + d) (it t (j + d) p) := by
  induction d with
  | zero => intro j; simp [whF]
  | succ d ih =>
    intro j
    rw [show d + 1 + e = (d + e) + 1 by omega, whF, whF]
    by_cases c : it t j p = to
    · simp [c]
    · rw [if_neg c, if_neg c, show nth t (it t j p) = it t (j + 1) p from rfl, ih (j + 1), show j + 1 + d = j + (d + 1) by omega]
/-- A list without repetitions below a number is no longer than it. -/
theorem nodup_len : ∀ (n : Nat) (l : List Nat), l.Nodup → (∀ x ∈ l, x < n) → l.length ≤ n
  | 0, l, _, h => by
    cases l with
    | nil => simp
    | cons a r => have := h a (by simp); omega
  | n + 1, l, hd, h => by
    have h1 := nodup_len n (l.filter fun x => decide (x ≠ n)) (hd.filter _) (fun x hx => by
      simp only [List.mem_filter, decide_eq_true_eq] at hx
      have := h x hx.1; omega)
    have h2 : (l.filter fun x => decide (x = n)).length ≤ 1 := by
      have e : l.filter (fun x => decide (x = n)) = l.filter (fun x => x == n) := by
        apply List.filter_congr; intro x _; rw [Bool.eq_iff_iff]; simp
      rw [e, ← List.count_eq_length_filter]
      exact List.nodup_iff_count.1 hd n
    have h3 : l.length = (l.filter fun x => decide (x ≠ n)).length + (l.filter fun x => decide (x = n)).length := by
      clear h1 h2 hd h
      induction l with
      | nil => rfl
      | cons a r ih =>
        by_cases c : a = n <;> simp [c, ih] <;> omega
    omega
theorem it_lt {t : List Nat} (h : ∀ x ∈ t, x < t.length) {p : Nat} (hp : p < t.length) : ∀ k, it t k p < t.length
  | 0 => hp
  | k + 1 => by
    have := it_lt h hp k
    rw [it, nth_at' t _ this]; exact h _ (List.getElem_mem this)
theorem it_inj {t : List Nat} (hT : Tide t.length t) {p q : Nat} (hp : p < t.length) (hq : q < t.length) : ∀ k, it t k p = it t k q → p = q
  | 0, h => h
  | k + 1, h => by
    have h1 := it_lt hT.2.2 hp k
    have h2 := it_lt hT.2.2 hq k
    rw [it, it, nth_at' t _ h1, nth_at' t _ h2] at h
    exact it_inj hT hp hq k ((List.getElem_inj hT.2.1).1 h)
theorem rgF_new (t : List Nat) (p : Nat) (l : List Nat) (f : Nat) : ∀ j, rgF t p f (it t j p) (orb t p j) = some l → ∀ i, j ≤ i → i < l.length → it t i p ≠ p := by
  induction f with
  | zero => intro j h; cases h
  | succ f ih =>
    intro j h i h1 h2
    rw [rgF] at h
    cases e : Nat.beq (it t j p) p
    · rw [e, cond_false] at h
      cases e2 : Nat.blt (it t j p) t.length
      · rw [e2] at h; cases h
      · rw [e2, cond_true, ← orb_succ] at h
        by_cases c : i = j
        · subst c; intro c; rw [c, Nat.beq_refl] at e; cases e
        · exact ih (j + 1) h i (by omega) h2
    · rw [e, cond_true] at h
      have := Option.some.inj h
      rw [← this, orb_len] at h2; omega
theorem ring_short {t : List Nat} (hT : Tide t.length t) {p : Nat} (hp : p < t.length) {l : List Nat} (h : ringR t p = some l) : l.length ≤ t.length := by
  obtain ⟨m, hm, rfl, hb⟩ := ringR_orb h
  have hnew := rgF_new t p _ 9 1 h
  rw [orb_len] at hnew
  refine nodup_len _ _ ?_ fun x hx => ?_
  · unfold orb
    refine List.nodup_iff_pairwise_ne.2 (List.pairwise_map.2 ?_)
    refine List.Pairwise.imp_of_mem ?_ (List.pairwise_lt_range (n := m))
    intro a b ha hb' hab c
    simp only [List.mem_range] at ha hb'
    have e : it t b p = it t a (it t (b - a) p) := by rw [← it_add]; congr 1; omega
    rw [e] at c
    have := it_inj hT hp (it_lt hT.2.2 hp _) a c
    exact hnew (b - a) (by omega) (by omega) this.symm
  · simp only [orb, List.mem_map] at hx
    obtain ⟨i, _, rfl⟩ := hx
    exact it_lt hT.2.2 hp i
/-- When a thing comes to a place: by its way, and by its ring. -/
theorem when_eq {t : List Nat} (hT : Tide t.length t) {p : Nat} (hp : p < t.length) {l : List Nat} (h : ringR t p = some l) (to : Nat) : whF t to t.length 0 p = fiL to l 0 := by
  have hs := ring_short hT hp h
  obtain ⟨m, hm, rfl, hb⟩ := ringR_orb h
  rw [orb_len] at hs
  have e1 : fiL to (orb t p m) 0 = whF t to m 0 p := by
    have := fiL_orb t to p m 0
    rw [orb, List.range_eq_range']
    exact this
  rw [e1]
  obtain ⟨e, he⟩ : ∃ e, t.length = m + e := ⟨t.length - m, by omega⟩
  have := whF_add t to p m e 0
  rw [he]
  change whF t to (m + e) 0 p = match whF t to m 0 p with | some k => some k | none => _ at this
  rw [this]
  cases hc : whF t to m 0 p with
  | some k => rfl
  | none =>
    simp only
    rw [whF_none]
    intro i h1 h2 c
    have hn := (whF_none t to p m 0).1 hc
    have := hn (i % m) (by omega) (by have := Nat.mod_lt i (show 0 < m by omega); omega)
    rw [it_mod t m p hb] at this
    exact this c
end Go.Am.Wash

