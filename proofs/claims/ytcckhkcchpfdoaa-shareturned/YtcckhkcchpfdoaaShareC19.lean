import Derived.Test.YtcckhkcchpfdoaaShareC17
import Derived.Test.YtcckhkcchpfdoaaShareD16
/-
  What functions of chapter 07 compute, 19: the program turns a ring.
-/
set_option linter.unusedVariables false
set_option linter.unusedSimpArgs false
set_option maxRecDepth 10000
namespace Go.Am.Share
end Go.Am.Share

/-
  What functions of chapter 07 compute, 20: the program's divisions one after the other.
-/
set_option linter.unusedVariables false
set_option linter.unusedSimpArgs false
set_option maxRecDepth 10000
namespace Go.Am.Share
theorem DOk.own {rs : List Row} {o : List Int} (D : DOk rs o) : 0 ≤ ownS (vals rs) o ∧ ownS (vals rs) o ≤ 480 := by
  have h6 := D.le6
  refine ownS_le ?_ ?_ (by rw [vals_length]; exact D.le4)
  · intro i hi
    rw [vals_length] at hi
    rw [vals_at rs i hi]; exact D.ok i hi
  · intro i hi
    rw [vals_length] at hi
    rw [vals_at rs i hi, ← D.len i hi]; exact h6
end Go.Am.Share

/-
  Plain: one after the other, with rings turned, nobody envies anybody by more than one thing.
-/
set_option linter.unusedVariables false
set_option linter.unusedSimpArgs false
set_option maxRecDepth 10000
set_option maxHeartbeats 400000
namespace Go.Am.Share
open Go.Am.G

theorem wg_iff (a b : Int) : ∀ (r o o' : List Int) (c : Int × Int), o.length = o'.length → (∀ k, k < o.length → (o.getD k 0 = a ↔ o'.getD k 0 = b)) → wg a r o c = wg b r o' c
  | [], o, o', c, _, _ => by simp [wg]
  | x :: r, [], [], c, _, _ => by simp [wg]
  | x :: r, [], y' :: o', c, h, _ => by simp at h
  | x :: r, y :: o, [], c, h, _ => by simp at h
  | x :: r, y :: o, y' :: o', c, h, hk => by
    have h0 := hk 0 (by simp)
    simp only [List.getD_cons_zero] at h0
    have ih := fun c => wg_iff a b r o o' c (by simpa using h) (fun k hk' => by
      have := hk (k + 1) (by simpa using hk')
      simpa using this)
    rw [wg, wg, ih]
    by_cases e : y = a
    · rw [if_pos e, if_pos (h0.1 e)]
    · rw [if_neg e, if_neg (fun c => e (h0.2 c))]
/-- No envy by more than one thing. -/
def E1 (V : List (List Int)) (o : List Int) : Prop := ∀ i j : Nat, i < V.length → j < V.length → ws (j : Int) (V.getD i []) o 0 - (wg (j : Int) (V.getD i []) o (0, 0)).2 ≤ ws (i : Int) (V.getD i []) o 0
theorem px_e1 {V : List (List Int)} {o : List Int} : PX V o = [] ↔ E1 V o := by
  unfold PX outer inner E1 eX
  simp only [List.flatMap_eq_nil_iff, List.map_eq_nil_iff, List.filter_eq_nil_iff, List.mem_range'_1, decide_eq_true_eq]
  constructor
  · intro h i j hi hj
    have := h i ⟨by omega, by omega⟩ j ⟨by omega, by omega⟩
    omega
  · intro h i hi j hj
    have := h i j (by omega) (by omega)
    omega
theorem getD_set (o : List Int) (k m : Nat) (x : Int) (hk : k < o.length) : (o.set k x).getD m 0 = if m = k then x else o.getD m 0 := by
  simp only [List.getD_eq_getElem?_getD]
  by_cases c : m = k
  · subst c
    rw [if_pos rfl, List.getElem?_set_self hk]; rfl
  · rw [if_neg c, List.getElem?_set_ne (by omega)]
theorem E1.put {V : List (List Int)} {o : List Int} {L : Nat} (ho : o.length = L) (hVl : ∀ i, i < V.length → (V.getD i []).length = L ∧ Ok20 (V.getD i [])) (E : E1 V o) {k : Nat} (hk : k < L) (hn : o.getD k 0 = -1) {c : Nat} (hcl : c < V.length) (hcalm : ∀ i, i < V.length → ws (c : Int) (V.getD i []) o 0 ≤ ws (i : Int) (V.getD i []) o 0) : E1 V (o.set k (c : Int)) := by
  intro i j hi hj
  obtain ⟨l1, ok⟩ := hVl i hi
  have w1 := ws_set (j : Int) (c : Int) (V.getD i []) o k (by omega) (by omega)
  have w2 := ws_set (i : Int) (c : Int) (V.getD i []) o k (by omega) (by omega)
  rw [hn, if_neg (by omega)] at w1 w2
  have x0 : 0 ≤ (V.getD i []).getD k 0 := by
    rw [List.getD_eq_getElem?_getD, List.getElem?_eq_getElem (by omega)]
    exact (ok _ (List.getElem_mem _)).1
  have hown : ws (i : Int) (V.getD i []) o 0 ≤ ws (i : Int) (V.getD i []) (o.set k (c : Int)) 0 := by
    rw [w2]; split <;> omega
  by_cases hjc : j = c
  · subst hjc
    rw [if_pos rfl] at w1
    have gm := (wg_max (j : Int) (V.getD i []) (o.set k (j : Int)) (0, 0)).2 k (by omega) (by rw [List.length_set]; omega) (by rw [getD_set _ _ _ _ (by omega), if_pos rfl])
    have := hcalm i hi
    omega
  · rw [if_neg (by omega)] at w1
    have hw := wg_iff (j : Int) (j : Int) (V.getD i []) (o.set k (c : Int)) o (0, 0) (by rw [List.length_set]) (fun m hm => by
      rw [getD_set _ _ _ _ (by omega)]
      by_cases e : m = k
      · subst e
        rw [if_pos rfl, hn]
        constructor <;> intro h <;> omega
      · rw [if_neg e])
    have := E i j hi hj
    rw [hw]
    omega
theorem E1.nones {V : List (List Int)} (L : Nat) : E1 V (nones L) := by
  have hw : ∀ (j : Nat) (r : List Int) (n : Nat), ws (j : Int) r (List.replicate n (-1)) 0 = 0 := fun j r => by
    induction r with
    | nil => intro n; simp [ws]
    | cons x r ih =>
      intro n
      cases n with
      | zero => simp [ws]
      | succ n => rw [List.replicate_succ, ws_cons, if_neg (by omega), ih]; rfl
  intro i j hi hj
  have h0 := (wg_max (j : Int) (V.getD i []) (Share.nones L) (0, 0)).1
  have e1 := hw j (V.getD i []) L
  have e2 := hw i (V.getD i []) L
  unfold Share.nones at *
  rw [e1, e2]
  simp only at h0
  omega
/-- What is given, and what is not. -/
structure Rest (N L k : Nat) (o : List Int) : Prop where
  len : o.length = L
  rest : ∀ m, k ≤ m → m < L → o.getD m 0 = -1
  inr : ∀ m, m < k → 0 ≤ o.getD m 0 ∧ o.getD m 0 < (N : Int)
theorem Rest.put {N L k : Nat} {o : List Int} (R : Rest N L k o) (hk : k < L) {c : Int} (h0 : 0 ≤ c) (h1 : c < (N : Int)) : Rest N L (k + 1) (o.set k c) := by
  refine ⟨by rw [List.length_set]; exact R.len, fun m h2 h3 => ?_, fun m h2 => ?_⟩
  · rw [getD_set _ _ _ _ (by rw [R.len]; omega), if_neg (by omega)]
    exact R.rest m (by omega) h3
  · rw [getD_set _ _ _ _ (by rw [R.len]; omega)]
    split
    · exact ⟨h0, h1⟩
    · exact R.inr m (by omega)
theorem Rest.nones (N L : Nat) : Rest N L 0 (nones L) := ⟨by simp [Share.nones], fun m _ h => by simp [Share.nones, List.getD_eq_getElem?_getD, h], fun m h => by omega⟩
end Go.Am.Share

/-
  Plain: by turns nobody envies anybody by more than one thing, and the first one nobody at all.
-/
set_option linter.unusedVariables false
set_option linter.unusedSimpArgs false
set_option maxRecDepth 10000
set_option maxHeartbeats 400000
namespace Go.Am.Share
open Go.Am.G

theorem pk_max : ∀ (r o : List Int) (k : Nat) (a : Nat × Int), a.2 ≤ (pk r o k a).2 ∧ ∀ m, m < r.length → m < o.length → o.getD m 0 = -1 → r.getD m 0 ≤ (pk r o k a).2
  | [], o, k, a => by simp [pk]
  | x :: r, [], k, a => by simp [pk]
  | x :: r, y :: o, k, a => by
    rw [pk]
    obtain ⟨h1, h2⟩ := pk_max r o (k + 1) (if y = -1 ∧ a.2 < x then (k, x) else a)
    refine ⟨?_, fun m hm1 hm2 e => ?_⟩
    · refine Int.le_trans ?_ h1
      split
      · dsimp only; omega
      · omega
    · cases m with
      | zero =>
        simp only [List.getD_cons_zero] at e ⊢
        refine Int.le_trans ?_ h1
        split
        · exact Int.le_refl _
        · omega
      | succ m =>
        simp only [List.getD_cons_succ] at e ⊢
        exact h2 m (by simpa using hm1) (by simpa using hm2) e
/-- The greatest thing that is not given. -/
theorem pk_facts {r o : List Int} {L : Nat} (hr : r.length = L) (h20 : Ok20 r) (ho : o.length = L) (hc : 0 < o.count (-1)) : (pk r o 0 (0, -1)).1 < L ∧ o.getD (pk r o 0 (0, -1)).1 0 = -1 ∧ ∀ m, m < L → o.getD m 0 = -1 → r.getD m 0 ≤ r.getD (pk r o 0 (0, -1)).1 0 := by
  have hok := pk_ok r o (by omega) h20 o.length 0 (0, -1) (by omega) (.inl ⟨rfl, fun j hj => by omega⟩)
  rw [List.drop_zero, List.drop_zero] at hok
  have hmem : (-1 : Int) ∈ o := List.count_pos_iff.1 hc
  rcases hok with ⟨e1, e2⟩ | ⟨e1, e2, e3, e4⟩
  · obtain ⟨j, hj, hj2⟩ := List.getElem_of_mem hmem
    exact absurd (by simp [List.getD_eq_getElem?_getD, hj, hj2]) (e2 j hj)
  · refine ⟨by omega, e4, fun m hm e => ?_⟩
    rw [e3]
    exact (pk_max r o 0 (0, -1)).2 m (by omega) (by omega) e
/-- The next one of two. -/
def nextI (a b s : Nat) : Prop := (a < b ∧ (s ≤ a ∨ b < s)) ∨ (b < a ∧ b < s ∧ s ≤ a)
def Bd (r o : List Int) (L : Nat) (X : Int) : Prop := ∀ m, m < L → o.getD m 0 = -1 → r.getD m 0 ≤ X
/-- Nothing, or what one thing is worth. -/
def GOk (r o : List Int) (L : Nat) (j g : Int) : Prop := g = 0 ∨ ∃ m, m < L ∧ o.getD m 0 = j ∧ g = r.getD m 0
/-- What is between two while they take turns. -/
def INV (r o : List Int) (L N a b t : Nat) (i j : Int) : Prop :=
  ∃ g : Int, GOk r o L j g ∧ (a < b → g = 0) ∧
    ((t ≤ b ∧ b < a ∧ ws j r o 0 = 0) ∨
     (¬ (t ≤ b ∧ b < a) ∧ nextI a b (t % N) ∧ ws j r o 0 - g ≤ ws i r o 0) ∨
     (¬ (t ≤ b ∧ b < a) ∧ ¬ nextI a b (t % N) ∧ ∃ X, 0 ≤ X ∧ Bd r o L X ∧ ws j r o 0 - g + X ≤ ws i r o 0))
theorem mod_next (t N : Nat) (hN : 0 < N) : (t % N + 1 = N ∧ (t + 1) % N = 0) ∨ (t % N + 1 < N ∧ (t + 1) % N = t % N + 1) := by
  have h1 := Nat.mod_lt t hN
  rw [Nat.add_mod t 1 N]
  by_cases c : t % N + 1 = N
  · left
    refine ⟨c, ?_⟩
    by_cases h : N = 1
    · subst h; exact Nat.mod_one _
    · rw [Nat.mod_eq_of_lt (show 1 < N by omega), c, Nat.mod_self]
  · right
    refine ⟨by omega, ?_⟩
    rw [Nat.mod_eq_of_lt (show 1 < N by omega), Nat.mod_eq_of_lt (by omega)]
theorem inv_step {r o : List Int} {L N a b t : Nat} {i j w : Int} {k : Nat} (hr : r.length = L) (ho : o.length = L) (hp : ∀ x ∈ r, 0 ≤ x) (hN : 0 < N) (ha : a < N) (hb : b < N) (hab : a ≠ b) (hi : 0 ≤ i) (hj : 0 ≤ j) (hij : i ≠ j) (hk : k < L) (hok : o.getD k 0 = -1)
    (hwi : w = i ↔ t % N = a) (hwj : w = j ↔ t % N = b) (hmax : w = i → ∀ m, m < L → o.getD m 0 = -1 → r.getD m 0 ≤ r.getD k 0) (H : INV r o L N a b t i j) : INV r (o.set k w) L N a b (t + 1) i j := by
  obtain ⟨g, hg, hg0, H⟩ := H
  have wi := ws_set i w r o k (by omega) (by omega)
  have wj := ws_set j w r o k (by omega) (by omega)
  rw [hok, if_neg (by omega), Int.sub_zero] at wi wj
  have x0 : 0 ≤ r.getD k 0 := by
    rw [List.getD_eq_getElem?_getD, List.getElem?_eq_getElem (by omega)]
    exact hp _ (List.getElem_mem _)
  have i0 := ws_nonneg i r o hp
  have hn := mod_next t N hN
  have hs := Nat.mod_lt t hN
  have hg' : GOk r (o.set k w) L j g := by
    rcases hg with h | ⟨m, h1, h2, h3⟩
    · exact .inl h
    · refine .inr ⟨m, h1, ?_, h3⟩
      rw [getD_set _ _ _ _ (by omega), if_neg (fun e => by subst e; omega)]
      exact h2
  have htl : t ≤ b → t % N = t := fun h => Nat.mod_eq_of_lt (by omega)
  have hbd : ∀ X, Bd r o L X → Bd r (o.set k w) L X := fun X h m hm e => by
    rw [getD_set _ _ _ _ (by omega)] at e
    by_cases c : m = k
    · rw [if_pos c] at e
      subst c
      exact h m hm hok
    · rw [if_neg c] at e
      exact h m hm e
  by_cases ci : w = i
  · have cs := hwi.1 ci
    have cj : ¬ w = j := fun h => hij (ci.symm.trans h)
    rw [if_pos ci] at wi
    rw [if_neg cj, Int.add_zero] at wj
    refine ⟨g, hg', hg0, ?_⟩
    rw [wi, wj]
    rcases H with ⟨h1, h2, h3⟩ | ⟨h1, h2, h3⟩ | ⟨h1, h2, X, x1, x2, x3⟩
    · have := htl h1; omega
    · refine .inr (.inr ⟨by omega, ?_, r.getD k 0, x0, hbd _ (hmax ci), by omega⟩)
      unfold nextI
      omega
    · exfalso
      apply h2
      unfold nextI
      omega
  · rw [if_neg ci, Int.add_zero] at wi
    have cs : ¬ t % N = a := fun h => ci (hwi.2 h)
    by_cases cj : w = j
    · have cb := hwj.1 cj
      rw [if_pos cj] at wj
      rcases H with ⟨h1, h2, h3⟩ | ⟨h1, h2, h3⟩ | ⟨h1, h2, X, x1, x2, x3⟩
      · have htb := htl h1
        refine ⟨r.getD k 0, .inr ⟨k, hk, by rw [getD_set _ _ _ _ (by omega), if_pos rfl]; exact cj, rfl⟩, fun h => by omega, ?_⟩
        rw [wi, wj]
        refine .inr (.inl ⟨by omega, ?_, by omega⟩)
        unfold nextI
        omega
      · exfalso
        unfold nextI at h2
        omega
      · have hX := x2 k hk hok
        refine ⟨g, hg', hg0, ?_⟩
        rw [wi, wj]
        refine .inr (.inl ⟨by omega, ?_, by omega⟩)
        unfold nextI at h2 ⊢
        omega
    · rw [if_neg cj, Int.add_zero] at wj
      have cb : ¬ t % N = b := fun h => cj (hwj.2 h)
      refine ⟨g, hg', hg0, ?_⟩
      rw [wi, wj]
      rcases H with ⟨h1, h2, h3⟩ | ⟨h1, h2, h3⟩ | ⟨h1, h2, X, x1, x2, x3⟩
      · have := htl h1
        exact .inl ⟨by omega, h2, h3⟩
      · refine .inr (.inl ⟨by omega, ?_, h3⟩)
        unfold nextI at h2 ⊢
        omega
      · refine .inr (.inr ⟨by omega, ?_, X, x1, hbd X x2, x3⟩)
        unfold nextI at h2 ⊢
        omega
/-- An order of all finders. -/
structure OrdOk (N : Nat) (ord : List Int) : Prop where
  len : ord.length = N
  rng : ∀ s, s < N → 0 ≤ ord.getD s 0 ∧ ord.getD s 0 < (N : Int)
  inj : ∀ s t, s < N → t < N → ord.getD s 0 = ord.getD t 0 → s = t
  all : ∀ i : Nat, i < N → ∃ s, s < N ∧ ord.getD s 0 = (i : Int)
theorem trn_inv {V : List (List Int)} {L : Nat} (hV : 0 < V.length) (hVl : ∀ i, i < V.length → (V.getD i []).length = L ∧ Ok20 (V.getD i [])) {ord : List Int} (O : OrdOk V.length ord) {a b : Nat} (ha : a < V.length) (hb : b < V.length) (hab : a ≠ b) (n : Nat) : ∀ (t : Nat) (o : List Int), t + n = L → o.length = L → o.count (-1) = n → INV (V.getD (ord.getD a 0).toNat []) o L V.length a b t (ord.getD a 0) (ord.getD b 0) → INV (V.getD (ord.getD a 0).toNat []) (trn V ord n t o) L V.length a b L (ord.getD a 0) (ord.getD b 0) := by
  induction n with
  | zero =>
    intro t o ht _ _ H
    obtain rfl : t = L := by omega
    exact H
  | succ n ih =>
    intro t o ht ho hc H
    rw [trn, O.len]
    have hs := Nat.mod_lt t hV
    obtain ⟨w0, w1⟩ := O.rng _ hs
    obtain ⟨p0, p1⟩ := O.rng _ ha
    obtain ⟨q0, q1⟩ := O.rng _ hb
    obtain ⟨l1, ok1⟩ := hVl (ord.getD (t % V.length) 0).toNat (by omega)
    obtain ⟨l2, ok2⟩ := hVl (ord.getD a 0).toNat (by omega)
    obtain ⟨k1, k2, k3⟩ := pk_facts l1 ok1 ho (by omega)
    have hwi : ord.getD (t % V.length) 0 = ord.getD a 0 ↔ t % V.length = a := ⟨fun h => O.inj _ _ hs ha h, fun h => by rw [h]⟩
    have hwj : ord.getD (t % V.length) 0 = ord.getD b 0 ↔ t % V.length = b := ⟨fun h => O.inj _ _ hs hb h, fun h => by rw [h]⟩
    have hij : ord.getD a 0 ≠ ord.getD b 0 := fun h => hab (O.inj _ _ ha hb h)
    unfold tstep
    generalize hw : ord.getD (t % V.length) 0 = w at *
    generalize (pk (V.getD w.toNat []) o 0 (0, -1)).1 = k at *
    have st := inv_step (w := w) l2 ho (fun x hx => (ok2 x hx).1) hV ha hb hab p0 q0 hij k1 k2 hwi hwj (fun h => by rw [h] at k3; exact k3) H
    refine ih (t + 1) _ (by omega) (by rw [List.length_set]; exact ho) ?_ st
    have hk : k < o.length := by omega
    have hok : o[k] = -1 := by rw [← k2]; simp [List.getD_eq_getElem?_getD, hk]
    have hwn : ¬ w = -1 := by omega
    rw [List.count_set hk, hok, hc]
    simp [hwn]
theorem trn_range {V : List (List Int)} {L : Nat} (hV : 0 < V.length) (hVl : ∀ i, i < V.length → (V.getD i []).length = L ∧ Ok20 (V.getD i [])) {ord : List Int} (O : OrdOk V.length ord) (n : Nat) : ∀ (t : Nat) (o : List Int), t + n = L → o.length = L → o.count (-1) = n → (∀ x ∈ o, x = -1 ∨ (0 ≤ x ∧ x < (V.length : Int))) → ∀ x ∈ trn V ord n t o, 0 ≤ x ∧ x < (V.length : Int) := by
  induction n with
  | zero =>
    intro t o ht _ hc H x hx
    rcases H x hx with h | h
    · exfalso
      subst h
      have := List.count_pos_iff.2 (show (-1 : Int) ∈ o from hx)
      omega
    · exact h
  | succ n ih =>
    intro t o ht ho hc H
    rw [trn, O.len]
    have hs := Nat.mod_lt t hV
    obtain ⟨w0, w1⟩ := O.rng _ hs
    obtain ⟨l1, ok1⟩ := hVl (ord.getD (t % V.length) 0).toNat (by omega)
    obtain ⟨k1, k2, k3⟩ := pk_facts l1 ok1 ho (by omega)
    unfold tstep
    generalize ord.getD (t % V.length) 0 = w at *
    generalize (pk (V.getD w.toNat []) o 0 (0, -1)).1 = k at *
    have hk : k < o.length := by omega
    refine ih (t + 1) _ (by omega) (by rw [List.length_set]; exact ho) ?_ (fun x hx => ?_)
    · have hok : o[k] = -1 := by rw [← k2]; simp [List.getD_eq_getElem?_getD, hk]
      have hwn : ¬ w = -1 := by omega
      rw [List.count_set hk, hok, hc]
      simp [hwn]
    · rcases List.mem_or_eq_of_mem_set hx with h | rfl
      · exact H x h
      · exact .inr ⟨w0, w1⟩
theorem turns_ok {V : List (List Int)} {L : Nat} (hV : 0 < V.length) (hVl : ∀ i, i < V.length → (V.getD i []).length = L ∧ Ok20 (V.getD i [])) {ord : List Int} (O : OrdOk V.length ord) :
    (∀ x ∈ trn V ord L 0 (nones L), 0 ≤ x ∧ x < (V.length : Int)) ∧ E1 V (trn V ord L 0 (nones L)) ∧ ∀ j : Nat, j < V.length → ws (j : Int) (V.getD (ord.getD 0 0).toNat []) (trn V ord L 0 (nones L)) 0 ≤ ws (ord.getD 0 0) (V.getD (ord.getD 0 0).toNat []) (trn V ord L 0 (nones L)) 0 := by
  have hnl : (nones L).length = L := by simp [nones]
  have hnc : (nones L).count (-1) = L := by simp [nones]
  have h0 : ∀ (j : Int) (r : List Int), 0 ≤ j → ws j r (nones L) 0 = 0 := fun j r hj => by
    have hw : ∀ (r : List Int) (n : Nat), ws j r (List.replicate n (-1)) 0 = 0 := fun r => by
      induction r with
      | nil => intro n; simp [ws]
      | cons x r ih =>
        intro n
        cases n with
        | zero => simp [ws]
        | succ n => rw [List.replicate_succ, ws_cons, if_neg (by omega), ih]; rfl
    exact hw r L
  have key : ∀ a b, a < V.length → b < V.length → a ≠ b → ∃ g : Int, GOk (V.getD (ord.getD a 0).toNat []) (trn V ord L 0 (nones L)) L (ord.getD b 0) g ∧ (a < b → g = 0) ∧ ws (ord.getD b 0) (V.getD (ord.getD a 0).toNat []) (trn V ord L 0 (nones L)) 0 - g ≤ ws (ord.getD a 0) (V.getD (ord.getD a 0).toNat []) (trn V ord L 0 (nones L)) 0 := fun a b ha hb hab => by
    obtain ⟨p0, p1⟩ := O.rng _ ha
    obtain ⟨q0, q1⟩ := O.rng _ hb
    obtain ⟨l2, ok2⟩ := hVl (ord.getD a 0).toNat (by omega)
    have hi := trn_inv hV hVl O ha hb hab L 0 (nones L) (by omega) hnl hnc ⟨0, .inl rfl, fun _ => rfl, by
      rw [h0 _ _ p0, h0 _ _ q0, Nat.zero_mod]
      by_cases c : b < a
      · exact .inl ⟨by omega, c, rfl⟩
      · refine .inr (.inl ⟨by omega, ?_, by omega⟩)
        unfold nextI
        omega⟩
    have i0 := ws_nonneg (ord.getD a 0) (V.getD (ord.getD a 0).toNat []) (trn V ord L 0 (nones L)) (fun x hx => (ok2 x hx).1)
    obtain ⟨g, g1, g2, H⟩ := hi
    rcases H with ⟨h1, h2, h3⟩ | ⟨h1, h2, h3⟩ | ⟨h1, h2, X, x1, x2, x3⟩
    · exact ⟨0, .inl rfl, fun _ => rfl, by omega⟩
    · exact ⟨g, g1, g2, h3⟩
    · exact ⟨g, g1, g2, by omega⟩
  have hlen : (trn V ord L 0 (nones L)).length = L := by rw [trn_length, hnl]
  refine ⟨trn_range hV hVl O L 0 (nones L) (by omega) hnl hnc (fun x hx => .inl (List.eq_of_mem_replicate hx)), fun i j hi hj => ?_, fun j hj => ?_⟩
  · obtain ⟨li, oki⟩ := hVl i hi
    obtain ⟨m0, mm⟩ := wg_max (j : Int) (V.getD i []) (trn V ord L 0 (nones L)) (0, 0)
    simp only at m0
    by_cases c : i = j
    · subst c; omega
    · obtain ⟨a, ha, ea⟩ := O.all i hi
      obtain ⟨b, hb, eb⟩ := O.all j hj
      obtain ⟨g, g1, _, g3⟩ := key a b ha hb (fun e => c (by subst e; omega))
      rw [ea, eb, Int.toNat_natCast] at g3 g1
      rcases g1 with rfl | ⟨m, h1, h2, h3⟩
      · omega
      · have := mm m (by omega) (by omega) h2
        omega
  · obtain ⟨b, hb, eb⟩ := O.all j hj
    by_cases c : b = 0
    · subst c; rw [eb]; exact Int.le_refl _
    · obtain ⟨g, _, g2, g3⟩ := key 0 b hV hb (by omega)
      rw [g2 (by omega), eb] at g3
      omega
theorem ord_perm {N : Nat} {l : List Nat} (h : l.Perm (List.range N)) : OrdOk N (l.map fun x : Nat => (x : Int)) := by
  have hl : l.length = N := by rw [h.length_eq]; simp
  have hg : ∀ s, s < N → (l.map fun x : Nat => (x : Int)).getD s 0 = ((l.getD s 0 : Nat) : Int) := fun s hs => by
    simp [List.getD_eq_getElem?_getD, show s < l.length by omega]
  have hge : ∀ s (hs : s < N), l.getD s 0 = l[s]'(by omega) := fun s hs => by simp [List.getD_eq_getElem?_getD, show s < l.length by omega]
  have hnd : l.Nodup := h.nodup_iff.2 List.nodup_range
  refine ⟨by simp [hl], fun s hs => ?_, fun s t hs ht e => ?_, fun i hi => ?_⟩
  · rw [hg s hs, hge s hs]
    have := (h.mem_iff).1 (List.getElem_mem (show s < l.length by omega))
    simp at this
    omega
  · rw [hg s hs, hg t ht, hge s hs, hge t ht] at e
    exact (List.getElem_inj hnd).1 (by omega)
  · have : i ∈ l := (h.mem_iff).2 (by simpa using hi)
    obtain ⟨s, hs, e⟩ := List.getElem_of_mem this
    exact ⟨s, by omega, by rw [hg s (by omega), hge s (by omega), e]⟩
theorem ordE_nodup (N : Int) : ∀ (l pre : List Int), (∀ x ∈ l, 0 ≤ x ∧ x < N) → (pre ++ l).Nodup → ordE N pre l = 0
  | [], pre, _, _ => rfl
  | x :: r, pre, h, hn => by
    have h0 := h x (by simp)
    rw [ordE, if_neg (by unfold inB; simp; omega), if_neg (fun hm => by
      rw [List.nodup_append] at hn
      exact hn.2.2 x hm x (by simp) rfl)]
    exact ordE_nodup N r (pre ++ [x]) (fun y hy => h y (by simp [hy])) (by rw [List.append_assoc]; exact hn)
end Go.Am.Share


