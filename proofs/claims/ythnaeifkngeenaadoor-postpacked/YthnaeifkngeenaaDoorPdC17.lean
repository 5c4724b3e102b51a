import Derived.Test.YthnaeifkngeenaaDoorPdC16
import Derived.Test.YthnaeifkngeenaaDoorPdC14
/-
  What functions of chapter 12 compute, 17: places that are always, or never, in the smallest lists; the law of counts.
-/
set_option linter.unusedVariables false
set_option linter.unusedSimpArgs false
set_option maxRecDepth 10000
namespace Go.Am.Post
open Go.Am.G

end Go.Am.Post

/-
  Plain: in a tree the fewest posts that guard are as many as places can be apart; a place more; smaller prices. No statement of the seat is proved here.
-/
set_option linter.unusedVariables false
set_option linter.unusedSimpArgs false
namespace Go.Am.Post

/-- A place is at hand. -/
def near (par : Nat → Nat) (v w : Nat) : Prop := v = w ∨ adj par v w = true
theorem adj_iff (par : Nat → Nat) (v u : Nat) : adj par v u = true ↔ (v ≠ 0 ∧ u = par v) ∨ (u ≠ 0 ∧ par u = v) := by
  simp [adj]
theorem dom_iff (par : Nat → Nat) (n : Nat) (S : List Nat) : dom par n S = true ↔ ∀ v, v < n → ∃ u ∈ S, near par v u := by
  rw [dom, allN_iff]
  constructor
  · intro h v hv
    have := h v hv
    unfold okS at this
    by_cases c : v ∈ S
    · exact ⟨v, c, .inl rfl⟩
    · rw [if_neg c] at this
      simp only [Bool.not_false, Bool.and_true, List.any_eq_true] at this
      obtain ⟨u, hu, e⟩ := this
      exact ⟨u, hu, .inr e⟩
  · intro h v hv
    obtain ⟨u, hu, e⟩ := h v hv
    unfold okS
    by_cases c : v ∈ S
    · rw [if_pos c]; rfl
    · rw [if_neg c]
      simp only [Bool.not_false, Bool.and_true, List.any_eq_true]
      rcases e with e | e
      · exact absurd (e ▸ hu) c
      · exact ⟨u, hu, e⟩
def far (par : Nat → Nat) (a b : Nat) : Prop := ∀ w, ¬ (near par a w ∧ near par b w)
/-- Places taken from the last one on: the place behind one that is not guarded gets a post. -/
theorem greedy (par : Nat → Nat) (hp : ∀ v, v ≠ 0 → par v < v) (n d : Nat) : ∀ k, k + d = n → ∃ D P : List Nat, D.length ≤ P.length ∧ (∀ x ∈ D, x < n) ∧ (∀ v, k ≤ v → v < n → ∃ u ∈ D, near par v u) ∧ (∀ p ∈ P, p < n ∧ (if p = 0 then 0 else par p) ∈ D) ∧ up k P ∧ P.Pairwise (far par) := by
  induction d with
  | zero =>
    intro k hk
    exact ⟨[], [], by simp, by simp, fun v h1 h2 => by omega, by simp, trivial, List.Pairwise.nil⟩
  | succ d ih =>
    intro k hk
    obtain ⟨D, P, h1, h2, h3, h4, h5, h6⟩ := ih (k + 1) (by omega)
    by_cases c : ∃ u ∈ D, near par k u
    · refine ⟨D, P, h1, h2, fun v hv hn => ?_, h4, up_le (by omega) h5, h6⟩
      by_cases e : v = k
      · subst e; exact c
      · exact h3 v (by omega) hn
    · have hpk : (if k = 0 then 0 else par k) ≤ k := by
        by_cases e : k = 0
        · rw [if_pos e]; omega
        · rw [if_neg e]; have := hp k e; omega
      have hnk : near par k (if k = 0 then 0 else par k) := by
        by_cases e : k = 0
        · rw [if_pos e]; exact .inl e
        · rw [if_neg e]; right; rw [adj_iff]; exact .inl ⟨e, rfl⟩
      refine ⟨(if k = 0 then 0 else par k) :: D, k :: P, by simp; omega, ?_, ?_, ?_, ⟨Nat.le_refl _, h5⟩, ?_⟩
      · intro x hx
        rcases List.mem_cons.1 hx with rfl | hx
        · omega
        · exact h2 x hx
      · intro v hv hn
        by_cases e : v = k
        · subst e; exact ⟨_, by simp, hnk⟩
        · obtain ⟨u, hu, q⟩ := h3 v (by omega) hn
          exact ⟨u, by simp [hu], q⟩
      · intro p hpp
        rcases List.mem_cons.1 hpp with rfl | hpp
        · exact ⟨by omega, by simp⟩
        · have := h4 p hpp
          exact ⟨this.1, by simp [this.2]⟩
      · rw [List.pairwise_cons]
        refine ⟨fun p hpp w hw => ?_, h6⟩
        have hge := up_ge h5 p hpp
        obtain ⟨hpn, hq⟩ := h4 p hpp
        rw [if_neg (by omega)] at hq
        have hpp' := hp p (by omega)
        have no : ∀ u ∈ D, ¬ near par k u := fun u hu q => c ⟨u, hu, q⟩
        obtain ⟨a, b⟩ := hw
        rcases b with rfl | b
        · -- the place itself
          rcases a with a | a
          · omega
          · rw [adj_iff] at a
            rcases a with ⟨a1, a2⟩ | ⟨a1, a2⟩
            · have := hp k a1; omega
            · exact no _ hq (.inl a2.symm)
        · rw [adj_iff] at b
          rcases b with ⟨b1, b2⟩ | ⟨b1, b2⟩
          · exact no _ hq (b2 ▸ a)
          · have hwp := hp w b1
            rcases a with a | a
            · omega
            · rw [adj_iff] at a
              rcases a with ⟨a1, a2⟩ | ⟨a1, a2⟩
              · have := hp k a1; omega
              · omega
theorem len_le : ∀ (A B : List Nat), A.Nodup → (∀ x ∈ A, x ∈ B) → A.length ≤ B.length
  | [], B, _, _ => Nat.zero_le _
  | a :: r, B, hn, h => by
    obtain ⟨h1, h2⟩ := List.nodup_cons.1 hn
    have ha := h a (by simp)
    have ih := len_le r (B.erase a) h2 fun x hx => by
      have hne : x ≠ a := fun e => h1 (e ▸ hx)
      exact (List.mem_erase_of_ne hne).2 (h x (by simp [hx]))
    rw [List.length_erase_of_mem ha] at ih
    have : 0 < B.length := List.length_pos_of_mem ha
    simp only [List.length_cons]
    omega
theorem up_nodup : ∀ {l : List Nat} {i : Nat}, up i l → l.Nodup
  | [], _, _ => List.nodup_nil
  | x :: r, i, h => List.nodup_cons.2 ⟨fun c => by have := up_ge h.2 x c; omega, up_nodup h.2⟩
/-- Places that are apart are never more than posts that guard. -/
theorem weak (par : Nat → Nat) (n : Nat) {S P : List Nat} (hS : dom par n S = true) (hP : ∀ p ∈ P, p < n) (hf : P.Pairwise (far par)) : P.length ≤ S.length := by
  rw [dom_iff] at hS
  have hch : ∃ f : Nat → Nat, ∀ p, p < n → f p ∈ S ∧ near par p (f p) := by
    refine ⟨fun p => if h : p < n then Classical.choose (hS p h) else 0, fun p h => ?_⟩
    simp only [h, dif_pos]
    exact Classical.choose_spec (hS p h)
  obtain ⟨f, hf2⟩ := hch
  have hn : (P.map f).Nodup := by
    rw [List.Nodup, List.pairwise_map]
    refine List.Pairwise.imp_of_mem ?_ hf
    intro a b ha hb hab e
    exact hab (f a) ⟨(hf2 a (hP a ha)).2, e ▸ (hf2 b (hP b hb)).2⟩
  have := len_le (P.map f) S hn fun x hx => by
    obtain ⟨p, hp, rfl⟩ := List.mem_map.1 hx
    exact (hf2 p (hP p hp)).1
  simpa using this
/-- A set as an ascending list. -/
def srt (n : Nat) (D : List Nat) : List Nat := (List.range n).filter fun x => decide (x ∈ D)
theorem srt_asc (n : Nat) (D : List Nat) : srt n D ∈ asc 0 n := by
  have := (mem_asc n 0 _).1 (range_asc n)
  refine (mem_asc n 0 _).2 ⟨up_filter _ this.1, fun x hx => this.2 x (List.mem_filter.1 hx).1⟩
theorem srt_mem (n : Nat) (D : List Nat) (x : Nat) : x ∈ srt n D ↔ x < n ∧ x ∈ D := by simp [srt]
theorem srt_len (n : Nat) (D : List Nat) : (srt n D).length ≤ D.length :=
  len_le _ _ (up_nodup ((mem_asc n 0 _).1 (srt_asc n D)).1) fun x hx => ((srt_mem n D x).1 hx).2
theorem dom_srt {par : Nat → Nat} {n : Nat} {D : List Nat} (h : dom par n D = true) (hD : ∀ x ∈ D, x < n) : dom par n (srt n D) = true := by
  rw [dom_iff] at h ⊢
  intro v hv
  obtain ⟨u, hu, e⟩ := h v hv
  exact ⟨u, (srt_mem n D u).2 ⟨hD u hu, hu⟩, e⟩
/-- THE DUAL: lists of posts that guard, and of places that are apart, of one length. -/
theorem dual (par : Nat → Nat) (hp : ∀ v, v ≠ 0 → par v < v) (n : Nat) : ∃ S P : List Nat, S ∈ asc 0 n ∧ dom par n S = true ∧ P ∈ asc 0 n ∧ P.Pairwise (far par) ∧ S.length ≤ P.length := by
  obtain ⟨D, P, h1, h2, h3, h4, h5, h6⟩ := greedy par hp n n 0 (by omega)
  have hd : dom par n D = true := (dom_iff par n D).2 fun v hv => h3 v (by omega) hv
  exact ⟨srt n D, P, srt_asc n D, dom_srt hd h2, (mem_asc n 0 _).2 ⟨h5, fun x hx => by rw [Nat.zero_add]; exact (h4 x hx).1⟩, h6, Nat.le_trans (srt_len n D) h1⟩

end Go.Am.Post


