/-
  Plain: where things are after any number of tides, and when a thing comes to a place. No statement of the seat is proved here.
-/
import Derived.Test.YtgogknjedpmcgaaWashP4
set_option linter.unusedVariables false
set_option linter.unusedSimpArgs false
namespace Go.Am.Wash

theorem nth_at' (t : List Nat) (i : Nat) (h : i < t.length) : nth t i = t[i] := by rw [nth_getD]; simp [List.getD_eq_getElem?_getD, h]
theorem nth_set (o : List Nat) (i v x : Nat) (h : i < o.length) : nth (o.set i v) x = if x = i then v else nth o x := by
  simp only [nth_getD, List.getD_eq_getElem?_getD, List.getElem?_set]
  by_cases c : i = x
  · subst c; simp [h]
  · have : ¬ x = i := fun e => c e.symm
    simp [c, this]
def aIn (l : List Nat) (T : Int) : Nat → Nat → List Nat → List Nat
  | 0, _, o => o
  | n + 1, i, o => aIn l T n (i + 1) (o.set (nth l i) (nth l (idxI i T l.length).toNat))
def aOut (T : Int) : List (List Nat) → List Nat → List Nat
  | [], o => o
  | l :: r, o => aOut T r (aIn l T l.length 0 o)
theorem aIn_len (l : List Nat) (T : Int) (n : Nat) : ∀ i o, (aIn l T n i o).length = o.length := by
  induction n with
  | zero => intro i o; rfl
  | succ n ih => intro i o; rw [aIn, ih]; simp
theorem aOut_len (T : Int) : ∀ (R : List (List Nat)) (o : List Nat), (aOut T R o).length = o.length
  | [], o => rfl
  | l :: r, o => by rw [aOut, aOut_len T r, aIn_len]
def Ck (t : List Nat) (k : Nat) (o : List Nat) (x : Nat) : Prop := nth o x = it t k x
theorem val_ok {t : List Nat} {l : List Nat} {p n : Nat} (hl : l = orb t p l.length) (hp : it t l.length p = p) (hm : 0 < l.length) (hn : n % l.length = 0) (hn0 : 0 < n) (T : Int) (i : Nat) (hi : i < l.length) :
    nth l (idxI i T l.length).toNat = it t (T % (n : Int)).toNat (nth l i) := by
  have he : idxI i T l.length = ((i : Int) + T) % (l.length : Int) := tmod2 _ _ hm
  have h1 : 0 ≤ ((i : Int) + T) % (l.length : Int) := Int.emod_nonneg _ (by omega)
  have h2 : ((i : Int) + T) % (l.length : Int) < (l.length : Int) := Int.emod_lt_of_pos _ (by omega)
  have h3 : 0 ≤ T % (n : Int) := Int.emod_nonneg _ (by omega)
  obtain ⟨e, hee⟩ := Int.eq_ofNat_of_zero_le h1
  obtain ⟨k, hk⟩ := Int.eq_ofNat_of_zero_le h3
  rw [he, hee, hk, Int.toNat_natCast, Int.toNat_natCast]
  have hel : e < l.length := by omega
  have a1 : nth l e = it t e p := by conv => lhs; rw [hl]
                                     exact orb_at t p _ e hel
  have a2 : nth l i = it t i p := by conv => lhs; rw [hl]
                                     exact orb_at t p _ i hi
  rw [a1, a2, ← it_add]
  have hmod : (k + i) % l.length = e := by
    have hd : (l.length : Int) ∣ (n : Int) := by
      have := Nat.dvd_of_mod_eq_zero hn
      exact Int.natCast_dvd_natCast.2 this
    have h4 : ((k : Int) + (i : Int)) % (l.length : Int) = (e : Int) := by
      rw [← hk, ← hee, Int.add_emod, Int.emod_emod_of_dvd _ hd, ← Int.add_emod, Int.add_comm]
    have h5 : (((k + i) % l.length : Nat) : Int) = ((k : Int) + (i : Int)) % (l.length : Int) := by simp
    omega
  rw [← it_mod t l.length p hp (k + i), hmod]
theorem aIn_ok {t : List Nat} {l : List Nat} {p n : Nat} (hl : l = orb t p l.length) (hp : it t l.length p = p) (hm : 0 < l.length) (hn : n % l.length = 0) (hn0 : 0 < n) (T : Int) (hx : ∀ x ∈ l, x < t.length) (d : Nat) : ∀ (i : Nat) (o : List Nat), i + d = l.length → o.length = t.length →
    (∀ x, Ck t (T % (n : Int)).toNat o x → Ck t (T % (n : Int)).toNat (aIn l T d i o) x) ∧ ∀ j, i ≤ j → j < l.length → Ck t (T % (n : Int)).toNat (aIn l T d i o) (nth l j) := by
  induction d with
  | zero => intro i o hi ho; exact ⟨fun x h => h, fun j h1 h2 => by omega⟩
  | succ d ih =>
    intro i o hi ho
    have hil : i < l.length := by omega
    have hv := val_ok hl hp hm hn hn0 T i hil
    have hlt : nth l i < o.length := by rw [ho, nth_at' l i hil]; exact hx _ (List.getElem_mem hil)
    obtain ⟨g1, g2⟩ := ih (i + 1) (o.set (nth l i) (nth l (idxI i T l.length).toNat)) (by omega) (by simpa using ho)
    have hC : ∀ x, Ck t (T % (n : Int)).toNat o x ∨ x = nth l i → Ck t (T % (n : Int)).toNat (o.set (nth l i) (nth l (idxI i T l.length).toNat)) x := by
      intro x h
      unfold Ck at *
      rw [nth_set _ _ _ _ hlt]
      by_cases c : x = nth l i
      · rw [if_pos c, hv, c]
      · rw [if_neg c]
        exact h.resolve_right c
    rw [aIn]
    refine ⟨fun x h => g1 x (hC x (.inl h)), fun j h1 h2 => ?_⟩
    by_cases c : j = i
    · subst c; exact g1 _ (hC _ (.inr rfl))
    · exact g2 j (by omega) h2
theorem mem_nth {l : List Nat} {x : Nat} (h : x ∈ l) : ∃ j, j < l.length ∧ nth l j = x := by
  obtain ⟨j, hj, e⟩ := List.getElem_of_mem h
  exact ⟨j, hj, by rw [nth_at' l j hj, e]⟩
/-- When all is back is after some tides at least. -/
theorem bkF_pos (t id : List Nat) (n : Nat) (f : Nat) : ∀ k now, 0 < k → bkF t id f k now = some n → 0 < n := by
  induction f with
  | zero => intro k now _ h; cases h
  | succ f ih =>
    intro k now hk h
    rw [bkF] at h
    cases e : eqN now id
    · rw [e, cond_false] at h; exact ih _ _ (by omega) h
    · rw [e, cond_true] at h; have := Option.some.inj h; omega
theorem Known.npos {t : List Nat} {R : List (List Nat)} {n : Nat} (K : Known t R n) : 0 < n := bkF_pos _ _ _ _ _ _ (by omega) K.bk
theorem aOut_ok {t : List Nat} {R0 : List (List Nat)} {n : Nat} (K : Known t R0 n) (T : Int) : ∀ (R : List (List Nat)) (o : List Nat), (∀ l ∈ R, l ∈ R0) → o.length = t.length →
    (∀ x, Ck t (T % (n : Int)).toNat o x → Ck t (T % (n : Int)).toNat (aOut T R o) x) ∧ ∀ l ∈ R, ∀ x ∈ l, Ck t (T % (n : Int)).toNat (aOut T R o) x
  | [], o, _, _ => ⟨fun x h => h, by simp⟩
  | l :: r, o, hR, ho => by
    obtain ⟨r1, r2, r3, r4⟩ := K.rows l (hR l (by simp))
    obtain ⟨p, hl, hp⟩ := K.ring (hR l (by simp))
    obtain ⟨a1, a2⟩ := aIn_ok hl hp r1 r3 K.npos T r4 l.length 0 o (by omega) ho
    obtain ⟨b1, b2⟩ := aOut_ok K T r (aIn l T l.length 0 o) (fun x hx => hR x (by simp [hx])) (by rw [aIn_len, ho])
    rw [aOut]
    refine ⟨fun x h => b1 x (a1 x h), fun l' hl' x hx => ?_⟩
    rcases List.mem_cons.1 hl' with rfl | hl'
    · obtain ⟨j, hj, e⟩ := mem_nth hx
      exact b1 x (by rw [← e]; exact a2 j (by omega) hj)
    · exact b2 l' hl' x hx
/-- After so many tides. -/
def aftV (t : List Nat) (k : Nat) : List Nat := (List.range t.length).map (it t k)
theorem list_nth_ext {a b : List Nat} (h : a.length = b.length) (h2 : ∀ x, x < a.length → nth a x = nth b x) : a = b := by
  apply List.ext_getElem h
  intro i h3 h4
  have := h2 i h3
  rw [nth_at' a i h3, nth_at' b i h4] at this
  exact this
theorem aft_prog {t : List Nat} {R : List (List Nat)} {n : Nat} (K : Known t R n) (T : Int) : aOut T R (List.replicate t.length 0) = aftV t (T % (n : Int)).toNat := by
  apply list_nth_ext
  · rw [aOut_len]; simp [aftV]
  · intro x hx
    rw [aOut_len, List.length_replicate] at hx
    obtain ⟨l, hl, hxl⟩ := K.cov x hx
    have := (aOut_ok K T R (List.replicate t.length 0) (fun l h => h) (by simp)).2 l hl x hxl
    rw [this, nth_getD, aftV, List.getD_eq_getElem?_getD]
    simp [hx]
/-! ### When -/
def whF (t : List Nat) (to : Nat) : Nat → Nat → Nat → Option Nat
  | 0, _, _ => none
  | n + 1, k, x => if x = to then some k else whF t to n (k + 1) (nth t x)
theorem it_lt {t : List Nat} (h : ∀ x ∈ t, x < t.length) {p : Nat} (hp : p < t.length) : ∀ k, it t k p < t.length
  | 0 => hp
  | k + 1 => by
    have := it_lt h hp k
    rw [it, nth_at' t _ this]; exact h _ (List.getElem_mem this)
end Go.Am.Wash

