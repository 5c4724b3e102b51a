import Derived.Test.YtheppipmnfjdcaaRingC16
import Derived.Test.YtheppipmnfjdcaaRingC18
import Derived.Test.YtheppipmnfjdcaaRingC10
/-
  Forms and finds, in plain: striking one by one gives the first of the smallest lists.
-/
set_option linter.unusedVariables false
set_option linter.unusedSimpArgs false
namespace Go.Am.Ring

end Go.Am.Ring

/-
  Forms and finds, in plain: other numbers of the forms, and the finds in another order.
-/
set_option linter.unusedVariables false
set_option linter.unusedSimpArgs false
namespace Go.Am.Ring

/-! ### Orders -/
theorem ords_in (n : Nat) : ∀ (u done : Nat) (o : List Nat), o.Nodup → o.length = u → (∀ x ∈ o, x < n ∧ done.testBit x = false) → o ∈ compsU anyM n u done
  | 0, done, o, _, h, _ => by rw [List.length_eq_zero_iff.1 h]; simp [compsU]
  | u + 1, done, [], _, h, _ => by simp at h
  | u + 1, done, f :: r, hnd, h, hx => by
    rw [List.nodup_cons] at hnd
    rw [compsU, List.mem_flatMap]
    have hf := hx f (by simp)
    refine ⟨f, List.mem_range.2 hf.1, ?_⟩
    rw [if_neg (by simp [hf.2, anyM]), List.mem_map]
    refine ⟨r, ords_in n u _ r hnd.2 (by simpa using h) fun x hxr => ⟨(hx x (by simp [hxr])).1, ?_⟩, rfl⟩
    have : ¬ f = x := fun e => hnd.1 (e ▸ hxr)
    rw [or_bit, (hx x (by simp [hxr])).2]
    simp [this]
theorem ords_iff {n : Nat} {o : List Nat} : o ∈ ords n ↔ o.Nodup ∧ o.length = n ∧ ∀ x ∈ o, x < n :=
  ⟨fun h => ⟨(ords_ok h).1, (ords_ok h).2.1, (ords_ok h).2.2.1⟩, fun h => ords_in n n 0 o h.1 h.2.1 fun x hx => ⟨h.2.2 x hx, by simp⟩⟩
theorem comps_nodup (n : Nat) : ∀ (u done : Nat), (compsU anyM n u done).Nodup
  | 0, _ => by rw [compsU]; exact List.pairwise_singleton _ _
  | u + 1, done => by
    rw [compsU, List.Nodup, List.pairwise_flatMap]
    refine ⟨fun f _ => ?_, List.pairwise_lt_range.imp fun {a b} hab x hx y hy e => ?_⟩
    · split
      · exact List.Pairwise.nil
      · rw [List.pairwise_map]
        exact (comps_nodup n u _).imp fun hne e => hne (List.cons.inj e).2
    · subst e
      split at hx
      · simp at hx
      · split at hy
        · simp at hy
        · obtain ⟨r, _, rfl⟩ := List.mem_map.1 hx
          obtain ⟨s, _, e⟩ := List.mem_map.1 hy
          rw [List.cons.injEq] at e
          omega
theorem ords_nodup (n : Nat) : (ords n).Nodup := comps_nodup n n 0
/-- A change of numbers and back. -/
structure Rel (n : Nat) (σ τ : Nat → Nat) : Prop where
  lt : ∀ x, x < n → σ x < n
  lt' : ∀ x, x < n → τ x < n
  l : ∀ x, x < n → τ (σ x) = x
  r : ∀ x, x < n → σ (τ x) = x
theorem Rel.symm {n : Nat} {σ τ : Nat → Nat} (h : Rel n σ τ) : Rel n τ σ := ⟨h.lt', h.lt, h.r, h.l⟩
theorem Rel.inj {n : Nat} {σ τ : Nat → Nat} (h : Rel n σ τ) {x y : Nat} (hx : x < n) (hy : y < n) (e : σ x = σ y) : x = y := by
  have := congrArg τ e
  rwa [h.l x hx, h.l y hy] at this
theorem nodup_map {f : Nat → Nat} : ∀ {l : List Nat}, l.Nodup → (∀ x ∈ l, ∀ y ∈ l, f x = f y → x = y) → (l.map f).Nodup
  | [], _, _ => List.nodup_nil
  | a :: l, h, hf => by
    rw [List.nodup_cons] at h
    rw [List.map_cons, List.nodup_cons]
    refine ⟨fun hm => ?_, nodup_map h.2 fun x hx y hy => hf x (by simp [hx]) y (by simp [hy])⟩
    obtain ⟨y, hy, e⟩ := List.mem_map.1 hm
    have := hf y (by simp [hy]) a (by simp) e
    exact h.1 (this ▸ hy)
theorem ords_map {n : Nat} {σ τ : Nat → Nat} (R : Rel n σ τ) {o : List Nat} (h : o ∈ ords n) : o.map σ ∈ ords n := by
  obtain ⟨h1, h2, h3⟩ := ords_iff.1 h
  refine ords_iff.2 ⟨nodup_map h1 fun x hx y hy e => R.inj (h3 x hx) (h3 y hy) e, by simpa using h2, fun x hx => ?_⟩
  obtain ⟨y, hy, rfl⟩ := List.mem_map.1 hx
  exact R.lt y (h3 y hy)
theorem ords_back {n : Nat} {σ τ : Nat → Nat} (R : Rel n σ τ) {o : List Nat} (h : o ∈ ords n) : (o.map τ).map σ = o := by
  obtain ⟨h1, h2, h3⟩ := ords_iff.1 h
  rw [List.map_map]
  have : o.map (σ ∘ τ) = o.map id := List.map_congr_left fun x hx => R.r x (h3 x hx)
  rw [this, List.map_id]
theorem ords_perm {n : Nat} {σ τ : Nat → Nat} (R : Rel n σ τ) : ((ords n).map (List.map σ)).Perm (ords n) := by
  rw [List.perm_ext_iff_of_nodup _ (ords_nodup n)]
  · intro o
    rw [List.mem_map]
    constructor
    · rintro ⟨p, hp, rfl⟩; exact ords_map R hp
    · intro ho; exact ⟨o.map τ, ords_map R.symm ho, ords_back R ho⟩
  · rw [List.Nodup, List.pairwise_map]
    refine (ords_nodup n).imp_of_mem fun {a b} ha hb hne e => hne ?_
    have h1 := ords_back R.symm ha
    have h2 := ords_back R.symm hb
    rw [← h1, ← h2, e]
theorem pos_map {n : Nat} {σ τ : Nat → Nat} (R : Rel n σ τ) (x : Nat) (hx : x < n) : ∀ (o : List Nat), (∀ y ∈ o, y < n) → pos (o.map σ) (σ x) = pos o x
  | [], _ => rfl
  | f :: r, h => by
    rw [List.map_cons, pos_cons, pos_cons, pos_map R x hx r fun y hy => h y (by simp [hy])]
    have hf := h f (by simp)
    by_cases c : f = x
    · subst c; rw [if_pos rfl, if_pos rfl]
    · rw [if_neg c, if_neg (fun e => c (R.inj hf hx e))]
      have : (σ x ∈ r.map σ) ↔ x ∈ r := by
        rw [List.mem_map]
        constructor
        · rintro ⟨y, hy, e⟩
          have := R.inj (h y (by simp [hy])) hx e
          exact this ▸ hy
        · intro h; exact ⟨x, h, rfl⟩
      by_cases c2 : x ∈ r
      · rw [if_pos c2, if_pos (this.2 c2)]
      · rw [if_neg c2, if_neg (fun h => c2 (this.1 h))]
abbrev pmap (σ : Nat → Nat) (P : List (Nat × Nat)) : List (Nat × Nat) := P.map fun p => (σ p.1, σ p.2)
theorem contr_map {n : Nat} {σ τ : Nat → Nat} (R : Rel n σ τ) {P Q : List (Nat × Nat)} (G : Good n P) (hQ : Q.Perm (pmap σ P)) {o : List Nat} (ho : o ∈ ords n) : contr Q (o.map σ) = contr P o := by
  obtain ⟨_, _, h3⟩ := ords_iff.1 ho
  unfold contr
  rw [hQ.countP_eq, List.countP_map]
  refine List.countP_congr fun p hp => ?_
  have := G.lt p hp
  simp only [Function.comp, decide_eq_true_eq]
  rw [pos_map R p.1 this.1 o h3, pos_map R p.2 this.2 o h3]
section
variable {n : Nat} {σ τ : Nat → Nat} (R : Rel n σ τ) {P Q : List (Nat × Nat)} (G : Good n P) (GQ : Good n Q) (hQ : Q.Perm (pmap σ P))
include R G GQ hQ
theorem FW_map : FW n Q = FW n P := by
  apply Nat.le_antisymm
  · obtain ⟨o, ho, e⟩ := FW_at G
    have := FW_le GQ (ords_map R ho)
    rw [contr_map R G hQ ho, e] at this
    exact this
  · obtain ⟨o, ho, e⟩ := FW_at GQ
    have := FW_le G (ords_map R.symm ho)
    have h := contr_map R G hQ (ords_map R.symm ho)
    rw [ords_back R ho, e] at h
    omega
theorem best_map {o : List Nat} (ho : o ∈ ords n) : o.map σ ∈ bestO Q n ↔ o ∈ bestO P n := by
  unfold bestO
  rw [List.mem_filter, List.mem_filter, decide_eq_true_eq, decide_eq_true_eq, contr_map R G hQ ho]
  have h : (fwD anyM Q n 0).1 = (fwD anyM P n 0).1 := FW_map R G GQ hQ
  rw [h]
  exact ⟨fun h => ⟨ho, h.2⟩, fun h => ⟨ords_map R ho, h.2⟩⟩
theorem ways_map : (fwD anyM Q n 0).2 = (fwD anyM P n 0).2 := by
  rw [← bestO_len GQ, ← bestO_len G]
  unfold bestO
  rw [← List.countP_eq_length_filter, ← List.countP_eq_length_filter, ← (ords_perm R).countP_eq, List.countP_map]
  refine List.countP_congr fun o ho => ?_
  have h : (fwD anyM Q n 0).1 = (fwD anyM P n 0).1 := FW_map R G GQ hQ
  simp only [Function.comp, contr_map R G hQ ho, h]
omit R GQ hQ in
theorem sure_mem {a b : Nat} : (a, b) ∈ sureS n P ↔ a < n ∧ b < n ∧ a ≠ b ∧ ∀ o ∈ bestO P n, pos o a < pos o b := by
  rw [sureS_eq G]
  simp only [surS, surL, List.mem_flatMap, List.mem_map, List.mem_filter, List.mem_range, surR, befB, Bool.and_eq_true, Bool.not_eq_true', decide_eq_false_iff_not, List.all_eq_true, decide_eq_true_eq, Prod.mk.injEq]
  constructor
  · rintro ⟨a', h1, b', ⟨h2, h3, h4⟩, rfl, rfl⟩; exact ⟨h1, h2, h3, h4⟩
  · rintro ⟨h1, h2, h3, h4⟩; exact ⟨a, h1, b, ⟨h2, h3, h4⟩, rfl, rfl⟩
end
theorem sure_iff {n : Nat} {P : List (Nat × Nat)} (G : Good n P) {a b : Nat} : (a, b) ∈ sureS n P ↔ a < n ∧ b < n ∧ a ≠ b ∧ ∀ o ∈ bestO P n, pos o a < pos o b :=
  sure_mem G
theorem sure_map {n : Nat} {σ τ : Nat → Nat} (R : Rel n σ τ) {P Q : List (Nat × Nat)} (G : Good n P) (GQ : Good n Q) (hQ : Q.Perm (pmap σ P)) {a b : Nat} (h : (a, b) ∈ sureS n P) : (σ a, σ b) ∈ sureS n Q := by
  obtain ⟨h1, h2, h3, h4⟩ := (sure_iff G).1 h
  refine (sure_iff GQ).2 ⟨R.lt a h1, R.lt b h2, fun e => h3 (R.inj h1 h2 e), fun o ho => ?_⟩
  have ho' := (bestO_mem ho).1
  have hb := (best_map R G GQ hQ (ords_map R.symm ho')).1 (by rw [ords_back R ho']; exact ho)
  have := h4 _ hb
  have h3' := (ords_iff.1 (ords_map R.symm ho')).2.2
  rw [← pos_map R a h1 _ h3', ← pos_map R b h2 _ h3', ords_back R ho'] at this
  exact this
theorem nodup_leP : ∀ (s t : List (Nat × Nat)), s.Nodup → (∀ x ∈ s, x ∈ t) → s.length ≤ t.length
  | [], t, _, _ => by simp
  | a :: s, t, hs, ht => by
    have hs := List.nodup_cons.1 hs
    have := nodup_leP s (t.erase a) hs.2 (fun x hx => by
      have hxa : x ≠ a := fun e => hs.1 (e ▸ hx)
      exact (List.mem_erase_of_ne hxa).2 (ht x (by simp [hx])))
    have ha := ht a (by simp)
    rw [List.length_erase_of_mem ha] at this
    have hp := List.length_pos_of_mem ha
    simp; omega
theorem sure_nodup (n : Nat) (P : List (Nat × Nat)) : (sureS n P).Nodup := by
  unfold sureS
  rw [List.Nodup, List.pairwise_flatMap]
  refine ⟨fun a _ => ?_, List.pairwise_lt_range.imp fun {a b} hab x hx y hy e => ?_⟩
  · unfold sureL
    rw [List.pairwise_map]
    exact (List.pairwise_lt_range.filter _).imp fun {x y} hxy e => by
      simp only [Prod.mk.injEq] at e
      omega
  · subst e
    obtain ⟨p, _, rfl⟩ := List.mem_map.1 hx
    obtain ⟨q, _, e⟩ := List.mem_map.1 hy
    simp only [Prod.mk.injEq] at e
    omega
theorem sure_le {n : Nat} {σ τ : Nat → Nat} (R : Rel n σ τ) {P Q : List (Nat × Nat)} (G : Good n P) (GQ : Good n Q) (hQ : Q.Perm (pmap σ P)) : (sureS n P).length ≤ (sureS n Q).length := by
  have h := nodup_leP ((sureS n P).map fun p => (σ p.1, σ p.2)) (sureS n Q) ?_ (fun x hx => by
    obtain ⟨p, hp, rfl⟩ := List.mem_map.1 hx
    exact sure_map R G GQ hQ hp)
  · simpa using h
  · rw [List.Nodup, List.pairwise_map]
    refine (sure_nodup n P).imp_of_mem fun {a b} ha hb hne e => hne ?_
    obtain ⟨a1, a2, _⟩ := (sure_iff G).1 (show (a.1, a.2) ∈ _ from ha)
    obtain ⟨b1, b2, _⟩ := (sure_iff G).1 (show (b.1, b.2) ∈ _ from hb)
    simp only [Prod.mk.injEq] at e
    have e1 := R.inj a1 b1 e.1
    have e2 := R.inj a2 b2 e.2
    exact Prod.ext e1 e2

/-! ### Rings -/
theorem cyc_rot {n : Nat} {P : List (Nat × Nat)} (G : Good n P) {c : List Nat} (C : Cyc P c) : ∃ o, o ∈ allR P ∧ ∀ x, x ∈ o ↔ x ∈ c := by
  obtain ⟨m, hm, hmin⟩ : ∃ m ∈ c, ∀ k ∈ c, m ≤ k := by
    have : ∀ l : List Nat, l ≠ [] → ∃ m ∈ l, ∀ k ∈ l, m ≤ k := by
      intro l
      induction l with
      | nil => intro h; exact absurd rfl h
      | cons a l ih =>
        intro _
        by_cases hl : l = []
        · subst hl; exact ⟨a, by simp, by simp⟩
        · obtain ⟨m, h1, h2⟩ := ih hl
          by_cases c : a ≤ m
          · exact ⟨a, by simp, fun k hk => by
              rcases List.mem_cons.1 hk with rfl | hk
              · omega
              · have := h2 k hk; omega⟩
          · exact ⟨m, by simp [h1], fun k hk => by
              rcases List.mem_cons.1 hk with rfl | hk
              · omega
              · exact h2 k hk⟩
    exact this c C.ne
  obtain ⟨l1, l2, rfl⟩ := List.append_of_mem hm
  have hch := (chain_append l1 (m :: l2)).1 C.ch
  have hcl := C.cl
  rw [lastD_app l1 (m :: l2) (by simp)] at hcl
  have hnd := C.nd
  have hperm : ((m :: l2 ++ l1).map (st P)).Perm ((l1 ++ m :: l2).map (st P)) := (List.perm_append_comm).map _
  refine ⟨m :: l2 ++ l1, (allR_mem G _).2 ⟨⟨by simp, ?_, hperm.nodup_iff.2 hnd, ?_, ?_⟩, ?_⟩, fun x => (List.perm_append_comm).mem_iff⟩
  · intro k hk
    exact C.lt k ((List.perm_append_comm).mem_iff.1 hk)
  · refine (chain_append (m :: l2) l1).2 ⟨hch.2.1, hch.1, fun _ hl => ?_⟩
    rw [hcl, headD_app l1 _ hl]
  · by_cases hl : l1 = []
    · subst hl; simpa using hcl
    · rw [lastD_app _ _ hl]
      exact hch.2.2 hl (by simp)
  · intro k hk
    have hk' : k ∈ l2 ++ l1 := hk
    have h1 := hmin k (by
      rcases List.mem_append.1 hk' with h | h
      · simp [h]
      · simp [h])
    have h2 : k ≠ m := by
      intro e
      subst e
      have := hperm.nodup_iff.2 hnd
      rw [show k :: l2 ++ l1 = k :: (l2 ++ l1) from rfl, List.map_cons, List.nodup_cons] at this
      exact this.1 (List.mem_map.2 ⟨k, hk', rfl⟩)
    show m < k
    omega
/-- Finds go to finds. -/
structure RelF (P Q : List (Nat × Nat)) (σ ρ : Nat → Nat) : Prop where
  lt : ∀ k, k < P.length → ρ k < Q.length
  st' : ∀ k, k < P.length → st Q (ρ k) = σ (st P k)
  en' : ∀ k, k < P.length → en Q (ρ k) = σ (en P k)
  inj : ∀ k, k < P.length → ∀ l, l < P.length → ρ k = ρ l → k = l
theorem cyc_map {n : Nat} {σ τ ρ : Nat → Nat} (R : Rel n σ τ) {P Q : List (Nat × Nat)} (G : Good n P) (F : RelF P Q σ ρ) {c : List Nat} (C : Cyc P c) : Cyc Q (c.map ρ) := by
  have hh : ∀ {l : List Nat}, l ≠ [] → (l.map ρ).headD 0 = ρ (l.headD 0) := fun {l} h => by
    cases l with
    | nil => exact absurd rfl h
    | cons a l => rfl
  have hl : ∀ {l : List Nat}, l ≠ [] → (l.map ρ).getLastD 0 = ρ (l.getLastD 0) := fun {l} h => by
    rw [List.getLastD_eq_getLast?, List.getLastD_eq_getLast?, List.getLast?_map]
    cases hg : l.getLast? with
    | none => exact absurd (List.getLast?_eq_none_iff.1 hg) h
    | some x => rfl
  have hmem : c.headD 0 ∈ c ∧ c.getLastD 0 ∈ c := by
    obtain ⟨a, t, e⟩ := List.exists_cons_of_ne_nil C.ne
    refine ⟨by rw [e]; simp, ?_⟩
    rw [List.getLastD_eq_getLast?]
    cases hg : c.getLast? with
    | none => exact absurd (List.getLast?_eq_none_iff.1 hg) C.ne
    | some x => exact List.mem_of_getLast? hg
  refine ⟨fun e => C.ne (List.map_eq_nil_iff.1 e), fun k hk => ?_, ?_, ?_, ?_⟩
  · obtain ⟨q, hq, rfl⟩ := List.mem_map.1 hk
    exact F.lt q (C.lt q hq)
  · have e : (c.map ρ).map (st Q) = (c.map (st P)).map σ := by
      rw [List.map_map, List.map_map]
      exact List.map_congr_left fun k hk => F.st' k (C.lt k hk)
    rw [e]
    refine nodup_map C.nd fun x hx y hy e => ?_
    obtain ⟨k, hk, rfl⟩ := List.mem_map.1 hx
    obtain ⟨l, hl, rfl⟩ := List.mem_map.1 hy
    exact R.inj (st_lt G (C.lt k hk)).1 (st_lt G (C.lt l hl)).1 e
  · have : ∀ l : List Nat, (∀ k ∈ l, k < P.length) → Chain P l → Chain Q (l.map ρ) := by
      intro l
      induction l with
      | nil => intro _ _; trivial
      | cons a l ih =>
        intro h1 h2
        cases l with
        | nil => trivial
        | cons b l =>
          refine ⟨?_, ih (fun k hk => h1 k (by simp [hk])) h2.2⟩
          rw [F.en' a (h1 a (by simp)), F.st' b (h1 b (by simp)), h2.1]
    exact this c C.lt C.ch
  · rw [hh C.ne, hl C.ne, F.en' _ (C.lt _ hmem.2), F.st' _ (C.lt _ hmem.1), C.cl]
theorem apart_le {n : Nat} {σ τ ρ : Nat → Nat} (R : Rel n σ τ) {P Q : List (Nat × Nat)} (G : Good n P) (GQ : Good n Q) (F : RelF P Q σ ρ) : (ap (allR P)).length ≤ (ap (allR Q)).length := by
  have hs := ap_sub _ (allR P) (Nat.le_refl _)
  have key : ∀ l : List (List Nat), (∀ q ∈ l, q ∈ allR P) → l.Pairwise Dis → ∃ l' : List (List Nat), l'.length = l.length ∧ (∀ q' ∈ l', q' ∈ allR Q ∧ ∃ q ∈ l, ∀ x, x ∈ q' ↔ x ∈ q.map ρ) ∧ l'.Pairwise Dis := by
    intro l
    induction l with
    | nil => intro _ _; exact ⟨[], rfl, by simp, List.Pairwise.nil⟩
    | cons a l ih =>
      intro h1 h2
      rw [List.pairwise_cons] at h2
      obtain ⟨l', e, h3, h4⟩ := ih (fun q hq => h1 q (by simp [hq])) h2.2
      have C := ((allR_mem G a).1 (h1 a (by simp))).1
      obtain ⟨a', ha', hx⟩ := cyc_rot GQ (cyc_map R G F C)
      refine ⟨a' :: l', by simp [e], fun q' hq' => ?_, List.pairwise_cons.2 ⟨fun q' hq' => ?_, h4⟩⟩
      · rcases List.mem_cons.1 hq' with rfl | hq'
        · exact ⟨ha', a, by simp, hx⟩
        · obtain ⟨k1, q, k2, k3⟩ := h3 q' hq'
          exact ⟨k1, q, by simp [k2], k3⟩
      · obtain ⟨_, q, hq, hqx⟩ := h3 q' hq'
        intro x hxa hxq
        obtain ⟨k, hk, rfl⟩ := List.mem_map.1 ((hx x).1 hxa)
        obtain ⟨l2, hl2, e2⟩ := List.mem_map.1 ((hqx _).1 hxq)
        have hCq := ((allR_mem G q).1 (h1 q (by simp [hq]))).1
        have := F.inj l2 (hCq.lt l2 hl2) k (C.lt k hk) e2
        rw [this] at hl2
        exact h2.1 q hq k hk hl2
  obtain ⟨l', e, h1, h2⟩ := key (ap (allR P)) (fun q hq => hs.1.subset hq) hs.2
  rw [← e]
  refine ap_max _ (allR Q) (Nat.le_refl _) (fun q hq => ?_) l' h2 fun q hq => (h1 q hq).1
  exact ((allR_mem GQ q).1 hq).1.ne
/-- Finds, turned, with other numbers. -/
def turnP (σ : Nat → Nat) (P : List (Nat × Nat)) (t : Nat) : List (Nat × Nat) := (List.range P.length).map fun i => (σ (st P ((i + t) % P.length)), σ (en P ((i + t) % P.length)))
theorem turnP_len (σ : Nat → Nat) (P : List (Nat × Nat)) (t : Nat) : (turnP σ P t).length = P.length := by simp [turnP]
theorem turnP_at (σ : Nat → Nat) (P : List (Nat × Nat)) (t i : Nat) (h : i < P.length) : st (turnP σ P t) i = σ (st P ((i + t) % P.length)) ∧ en (turnP σ P t) i = σ (en P ((i + t) % P.length)) := by
  have h2 : i < (turnP σ P t).length := by rw [turnP_len]; exact h
  unfold st en
  rw [getD_at _ i _ h2]
  simp [turnP, st, en]
theorem turnP_perm (σ : Nat → Nat) (P : List (Nat × Nat)) (t : Nat) : (turnP σ P t).Perm (pmap σ P) := by
  by_cases hP : P = []
  · subst hP; exact List.Perm.refl _
  have hpos : 0 < P.length := List.length_pos_iff.2 hP
  have hs : t % P.length < P.length := Nat.mod_lt _ hpos
  have e : turnP σ P t = pmap σ (P.drop (t % P.length) ++ P.take (t % P.length)) := by
    apply List.ext_getElem
    · simp [turnP]; omega
    · intro i h1 h2
      have h3 : i < P.length := by rw [turnP_len] at h1; exact h1
      have hm : (i + t) % P.length < P.length := Nat.mod_lt _ hpos
      simp only [turnP, pmap, List.getElem_map, List.getElem_range]
      rw [st, en, getD_at P _ _ hm]
      have hmod : (i + t) % P.length = if i < P.length - t % P.length then t % P.length + i else i - (P.length - t % P.length) := by
        rw [Nat.add_mod, Nat.mod_eq_of_lt h3]
        split
        · rw [Nat.mod_eq_of_lt (by omega)]; omega
        · rw [Nat.mod_eq_sub_mod (by omega), Nat.mod_eq_of_lt (by omega)]; omega
      rw [List.getElem_append]
      simp only [List.length_drop]
      split
      · rename_i c
        rw [if_pos c] at hmod
        simp only [hmod, List.getElem_drop]
      · rename_i c
        rw [if_neg c] at hmod
        simp only [hmod, List.getElem_take]
  rw [e]
  have : (P.drop (t % P.length) ++ P.take (t % P.length)).Perm P := by
    have h := List.perm_append_comm (l₁ := P.drop (t % P.length)) (l₂ := P.take (t % P.length))
    rw [List.take_append_drop] at h
    exact h
  exact this.map _
theorem turnP_good {n : Nat} {σ τ : Nat → Nat} (R : Rel n σ τ) {P : List (Nat × Nat)} (G : Good n P) (t : Nat) : Good n (turnP σ P t) := by
  have hm : ∀ p, p ∈ turnP σ P t ↔ p ∈ pmap σ P := fun p => (turnP_perm σ P t).mem_iff
  refine ⟨G.pos, G.le6, by rw [turnP_len]; exact G.le12, fun p hp => ?_, fun p hp => ?_⟩
  · obtain ⟨q, hq, rfl⟩ := List.mem_map.1 ((hm p).1 hp)
    have := G.lt q hq
    exact ⟨R.lt _ this.1, R.lt _ this.2⟩
  · obtain ⟨q, hq, rfl⟩ := List.mem_map.1 ((hm p).1 hp)
    have := G.lt q hq
    exact fun e => G.ne q hq (R.inj this.1 this.2 e)
theorem turn_back (L t i : Nat) (h : i < L) : ((i + (L - t % L)) % L + t) % L = i := by
  have hs : t % L < L := Nat.mod_lt _ (by omega)
  rw [Nat.mod_add_mod]
  have : i + (L - t % L) + t = i + L * (t / L + 1) := by
    have h1 := Nat.div_add_mod t L
    have h2 : L * (t / L + 1) = L * (t / L) + L := by rw [Nat.mul_add, Nat.mul_one]
    omega
  rw [this, Nat.add_mul_mod_self_left, Nat.mod_eq_of_lt h]
theorem turn_fwd (L t i : Nat) (h : i < L) : ((i + t) % L + (L - t % L)) % L = i := by
  have hs : t % L < L := Nat.mod_lt _ (by omega)
  rw [Nat.mod_add_mod]
  have : i + t + (L - t % L) = i + L * (t / L + 1) := by
    have h1 := Nat.div_add_mod t L
    have h2 : L * (t / L + 1) = L * (t / L) + L := by rw [Nat.mul_add, Nat.mul_one]
    omega
  rw [this, Nat.add_mul_mod_self_left, Nat.mod_eq_of_lt h]
theorem turn_rel {n : Nat} {σ τ : Nat → Nat} (R : Rel n σ τ) {P : List (Nat × Nat)} (G : Good n P) (t : Nat) : RelF P (turnP σ P t) σ (fun k => (k + (P.length - t % P.length)) % P.length) := by
  have hlt : ∀ k, k < P.length → (k + (P.length - t % P.length)) % P.length < P.length := fun k hk => Nat.mod_lt _ (by omega)
  refine ⟨fun k hk => by rw [turnP_len]; exact hlt k hk, fun k hk => ?_, fun k hk => ?_, fun k hk l hl e => ?_⟩
  · rw [(turnP_at σ P t _ (hlt k hk)).1, turn_back _ _ _ hk]
  · rw [(turnP_at σ P t _ (hlt k hk)).2, turn_back _ _ _ hk]
  · have := congrArg (fun x => (x + t) % P.length) e
    simp only [turn_back _ _ _ hk, turn_back _ _ _ hl] at this
    exact this
theorem turn_rel' {n : Nat} {σ τ : Nat → Nat} (R : Rel n σ τ) {P : List (Nat × Nat)} (G : Good n P) (t : Nat) : RelF (turnP σ P t) P τ (fun k => (k + t) % P.length) := by
  have hlt : ∀ k, k < P.length → (k + t) % P.length < P.length := fun k hk => Nat.mod_lt _ (by omega)
  refine ⟨fun k hk => ?_, fun k hk => ?_, fun k hk => ?_, fun k hk l hl e => ?_⟩
  · rw [turnP_len] at hk; exact hlt k hk
  · rw [turnP_len] at hk
    rw [(turnP_at σ P t k hk).1, R.l _ (st_lt G (hlt k hk)).1]
  · rw [turnP_len] at hk
    rw [(turnP_at σ P t k hk).2, R.l _ (st_lt G (hlt k hk)).2.1]
  · rw [turnP_len] at hk hl
    have := congrArg (fun x => (x + (P.length - t % P.length)) % P.length) e
    simp only [turn_fwd _ _ _ hk, turn_fwd _ _ _ hl] at this
    exact this
theorem turn_all {n : Nat} {σ τ : Nat → Nat} (R : Rel n σ τ) {P : List (Nat × Nat)} (G : Good n P) (t : Nat) :
    FW n (turnP σ P t) = FW n P ∧ (fwD anyM (turnP σ P t) n 0).2 = (fwD anyM P n 0).2 ∧ (ap (allR (turnP σ P t))).length = (ap (allR P)).length ∧ (sureS n (turnP σ P t)).length = (sureS n P).length ∧ ∀ a b, (a, b) ∈ sureS n P → (σ a, σ b) ∈ sureS n (turnP σ P t) := by
  have GQ := turnP_good R G t
  have hQ := turnP_perm σ P t
  have hP : P.Perm (pmap τ (turnP σ P t)) := by
    have h := hQ.map fun p : Nat × Nat => (τ p.1, τ p.2)
    refine List.Perm.trans ?_ h.symm
    rw [List.map_map]
    have : P.map ((fun p : Nat × Nat => (τ p.1, τ p.2)) ∘ fun p => (σ p.1, σ p.2)) = P.map id := List.map_congr_left fun p hp => by
      have := G.lt p hp
      simp only [Function.comp, R.l _ this.1, R.l _ this.2, id]
    rw [this, List.map_id]
  exact ⟨FW_map R G GQ hQ, ways_map R G GQ hQ, Nat.le_antisymm (apart_le R.symm GQ G (turn_rel' R G t)) (apart_le R G GQ (turn_rel R G t)), Nat.le_antisymm (sure_le R.symm GQ G hP) (sure_le R G GQ hQ), fun a b h => sure_map R G GQ hQ h⟩
end Go.Am.Ring

/-
  What functions of chapter 04 compute, 19: a find is taken out of a list.
-/
set_option linter.unusedVariables false
set_option linter.unusedSimpArgs false
set_option maxRecDepth 10000
namespace Go.Am.Ring
open Go.Am.G

end Go.Am.Ring

/-
  Forms and finds, in plain: where a find is among those that are left.
-/
set_option linter.unusedVariables false
set_option linter.unusedSimpArgs false
namespace Go.Am.Ring

end Go.Am.Ring

/-
  What functions of chapter 04 compute, 20: the program's Strike.
-/
set_option linter.unusedVariables false
set_option linter.unusedSimpArgs false
set_option maxRecDepth 10000
namespace Go.Am.Ring
open Go.Am.G

/-- Finds in memory, in a block that may have more room. -/
def LV2 (m : LMem) (v : LV) (ib : Nat) (l : List (Nat × Nat)) : Prop :=
  ∃ cap L Z w, v = .sl ib 0 l.length cap 2 2 L ∧ m[ib]? = some ⟨Pcs l ++ Z, w⟩ ∧ (Pcs l ++ Z).length = L ∧ l.length ≤ cap
theorem LV2.view {m : LMem} {v : LV} {ib : Nat} {l : List (Nat × Nat)} (h : LV2 m v ib l) : ∃ ex, ∀ k, view (k + 3) m v = some (FN false ex 2 l, [ib]) := by
  obtain ⟨cap, L, Z, w, rfl, hm, hL, hc⟩ := h
  have hp := Pcs_len l
  have hlen : (Pcs l ++ Z).length = l.length * 2 + Z.length := by rw [List.length_append, hp]
  have htk : (Pcs l ++ Z).take (l.length * 2) = Pcs l := by rw [List.take_append_of_le_length (by omega), List.take_of_length_le (by omega)]
  refine ⟨Nat.beq 2 0 && Nat.beq cap l.length, fun k => ?_⟩
  have := view_slc k m ib 0 l.length L 2 cap 2 (Pcs l ++ Z) w hm (by rw [List.drop_zero, htk]; exact Pcs_pures l) hL (by omega) hc
  rw [List.drop_zero, htk] at this
  simp only [FN_eq]
  exact this
theorem LV2.mono {m m' : LMem} {v : LV} {ib : Nat} {l : List (Nat × Nat)} (h : LV2 m v ib l) (e : m'[ib]? = m[ib]?) : LV2 m' v ib l := by
  obtain ⟨cap, L, Z, w, h1, h2, h3, h4⟩ := h
  exact ⟨cap, L, Z, w, h1, by rw [e]; exact h2, h3, h4⟩
theorem LV2.lt {m : LMem} {v : LV} {ib : Nat} {l : List (Nat × Nat)} (h : LV2 m v ib l) : ib < m.length := by
  obtain ⟨cap, L, Z, w, h1, h2, h3, h4⟩ := h
  rcases Nat.lt_or_ge ib m.length with c | c
  · exact c
  · rw [List.getElem?_eq_none c] at h2; cases h2
end Go.Am.Ring


