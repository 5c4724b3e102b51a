import Derived.Test.YthnaeifkngeenaaPostC14
import Derived.Test.YthnaeifkngeenaaPostC17
/-
  Plain: in a tree the fewest posts that guard are as many as places can be apart; a place more; smaller prices. No statement of the seat is proved here.
-/
set_option linter.unusedVariables false
set_option linter.unusedSimpArgs false
namespace Go.Am.Post

/-- A place is at hand. -/
def near (par : Nat → Nat) (v w : Nat) : Prop := v = w ∨ adj par v w = true
theorem adj_iff (par : Nat → Nat) (v u : Nat) : adj par v u = true ↔ (v ≠ 0 ∧ u = par v) ∨ (u ≠ 0 ∧ par u = v) := by
  simp [adj]
theorem dom_iff (par : Nat → Nat) (n : Nat) (S : List Nat) : dom par n S = true ↔ ∀ v, v < n → ∃ u ∈ S, near par v u := by
  rw [dom, allN_iff]
  constructor
  · intro h v hv
    have := h v hv
    unfold okS at this
    by_cases c : v ∈ S
    · exact ⟨v, c, .inl rfl⟩
    · rw [if_neg c] at this
      simp only [Bool.not_false, Bool.and_true, List.any_eq_true] at this
      obtain ⟨u, hu, e⟩ := this
      exact ⟨u, hu, .inr e⟩
  · intro h v hv
    obtain ⟨u, hu, e⟩ := h v hv
    unfold okS
    by_cases c : v ∈ S
    · rw [if_pos c]; rfl
    · rw [if_neg c]
      simp only [Bool.not_false, Bool.and_true, List.any_eq_true]
      rcases e with e | e
      · exact absurd (e ▸ hu) c
      · exact ⟨u, hu, e⟩
def far (par : Nat → Nat) (a b : Nat) : Prop := ∀ w, ¬ (near par a w ∧ near par b w)
/-- Places taken from the last one on: the place behind one that is not guarded gets a post. -/
theorem greedy (par : Nat → Nat) (hp : ∀ v, v ≠ 0 → par v < v) (n d : Nat) : ∀ k, k + d = n → ∃ D P : List Nat, D.length ≤ P.length ∧ (∀ x ∈ D, x < n) ∧ (∀ v, k ≤ v → v < n → ∃ u ∈ D, near par v u) ∧ (∀ p ∈ P, p < n ∧ (if p = 0 then 0 else par p) ∈ D) ∧ up k P ∧ P.Pairwise (far par) := by
  induction d with
  | zero =>
    intro k hk
    exact ⟨[], [], by simp, by simp, fun v h1 h2 => by omega, by simp, trivial, List.Pairwise.nil⟩
  | succ d ih =>
    intro k hk
    obtain ⟨D, P, h1, h2, h3, h4, h5, h6⟩ := ih (k + 1) (by omega)
    by_cases c : ∃ u ∈ D, near par k u
    · refine ⟨D, P, h1, h2, fun v hv hn => ?_, h4, up_le (by omega) h5, h6⟩
      by_cases e : v = k
      · subst e; exact c
      · exact h3 v (by omega) hn
    · have hpk : (if k = 0 then 0 else par k) ≤ k := by
        by_cases e : k = 0
        · rw [if_pos e]; omega
        · rw [if_neg e]; have := hp k e; omega
      have hnk : near par k (if k = 0 then 0 else par k) := by
        by_cases e : k = 0
        · rw [if_pos e]; exact .inl e
        · rw [if_neg e]; right; rw [adj_iff]; exact .inl ⟨e, rfl⟩
      refine ⟨(if k = 0 then 0 else par k) :: D, k :: P, by simp; omega, ?_, ?_, ?_, ⟨Nat.le_refl _, h5⟩, ?_⟩
      · intro x hx
        rcases List.mem_cons.1 hx with rfl | hx
        · omega
        · exact h2 x hx
      · intro v hv hn
        by_cases e : v = k
        · subst e; exact ⟨_, by simp, hnk⟩
        · obtain ⟨u, hu, q⟩ := h3 v (by omega) hn
          exact ⟨u, by simp [hu], q⟩
      · intro p hpp
        rcases List.mem_cons.1 hpp with rfl | hpp
        · exact ⟨by omega, by simp⟩
        · have := h4 p hpp
          exact ⟨this.1, by simp [this.2]⟩
      · rw [List.pairwise_cons]
        refine ⟨fun p hpp w hw => ?_, h6⟩
        have hge := up_ge h5 p hpp
        obtain ⟨hpn, hq⟩ := h4 p hpp
        rw [if_neg (by omega)] at hq
        have hpp' := hp p (by omega)
        have no : ∀ u ∈ D, ¬ near par k u := fun u hu q => c ⟨u, hu, q⟩
        obtain ⟨a, b⟩ := hw
        rcases b with rfl | b
        · -- the place itself
          rcases a with a | a
          · omega
          · rw [adj_iff] at a
            rcases a with ⟨a1, a2⟩ | ⟨a1, a2⟩
            · have := hp k a1; omega
            · exact no _ hq (.inl a2.symm)
        · rw [adj_iff] at b
          rcases b with ⟨b1, b2⟩ | ⟨b1, b2⟩
          · exact no _ hq (b2 ▸ a)
          · have hwp := hp w b1
            rcases a with a | a
            · omega
            · rw [adj_iff] at a
              rcases a with ⟨a1, a2⟩ | ⟨a1, a2⟩
              · have := hp k a1; omega
              · omega
theorem len_le : ∀ (A B : List Nat), A.Nodup → (∀ x ∈ A, x ∈ B) → A.length ≤ B.length
  | [], B, _, _ => Nat.zero_le _
  | a :: r, B, hn, h => by
    obtain ⟨h1, h2⟩ := List.nodup_cons.1 hn
    have ha := h a (by simp)
    have ih := len_le r (B.erase a) h2 fun x hx => by
      have hne : x ≠ a := fun e => h1 (e ▸ hx)
      exact (List.mem_erase_of_ne hne).2 (h x (by simp [hx]))
    rw [List.length_erase_of_mem ha] at ih
    have : 0 < B.length := List.length_pos_of_mem ha
    simp only [List.length_cons]
    omega
theorem up_nodup : ∀ {l : List Nat} {i : Nat}, up i l → l.Nodup
  | [], _, _ => List.nodup_nil
  | x :: r, i, h => List.nodup_cons.2 ⟨fun c => by have := up_ge h.2 x c; omega, up_nodup h.2⟩
/-- Places that are apart are never more than posts that guard. -/
theorem weak (par : Nat → Nat) (n : Nat) {S P : List Nat} (hS : dom par n S = true) (hP : ∀ p ∈ P, p < n) (hf : P.Pairwise (far par)) : P.length ≤ S.length := by
  rw [dom_iff] at hS
  have hch : ∃ f : Nat → Nat, ∀ p, p < n → f p ∈ S ∧ near par p (f p) := by
    refine ⟨fun p => if h : p < n then Classical.choose (hS p h) else 0, fun p h => ?_⟩
    simp only [h, dif_pos]
    exact Classical.choose_spec (hS p h)
  obtain ⟨f, hf2⟩ := hch
  have hn : (P.map f).Nodup := by
    rw [List.Nodup, List.pairwise_map]
    refine List.Pairwise.imp_of_mem ?_ hf
    intro a b ha hb hab e
    exact hab (f a) ⟨(hf2 a (hP a ha)).2, e ▸ (hf2 b (hP b hb)).2⟩
  have := len_le (P.map f) S hn fun x hx => by
    obtain ⟨p, hp, rfl⟩ := List.mem_map.1 hx
    exact (hf2 p (hP p hp)).1
  simpa using this
/-- A set as an ascending list. -/
def srt (n : Nat) (D : List Nat) : List Nat := (List.range n).filter fun x => decide (x ∈ D)
theorem srt_asc (n : Nat) (D : List Nat) : srt n D ∈ asc 0 n := by
  have := (mem_asc n 0 _).1 (range_asc n)
  refine (mem_asc n 0 _).2 ⟨up_filter _ this.1, fun x hx => this.2 x (List.mem_filter.1 hx).1⟩
theorem srt_mem (n : Nat) (D : List Nat) (x : Nat) : x ∈ srt n D ↔ x < n ∧ x ∈ D := by simp [srt]
theorem srt_len (n : Nat) (D : List Nat) : (srt n D).length ≤ D.length :=
  len_le _ _ (up_nodup ((mem_asc n 0 _).1 (srt_asc n D)).1) fun x hx => ((srt_mem n D x).1 hx).2
theorem dom_srt {par : Nat → Nat} {n : Nat} {D : List Nat} (h : dom par n D = true) (hD : ∀ x ∈ D, x < n) : dom par n (srt n D) = true := by
  rw [dom_iff] at h ⊢
  intro v hv
  obtain ⟨u, hu, e⟩ := h v hv
  exact ⟨u, (srt_mem n D u).2 ⟨hD u hu, hu⟩, e⟩
/-- THE DUAL: lists of posts that guard, and of places that are apart, of one length. -/
theorem dual (par : Nat → Nat) (hp : ∀ v, v ≠ 0 → par v < v) (n : Nat) : ∃ S P : List Nat, S ∈ asc 0 n ∧ dom par n S = true ∧ P ∈ asc 0 n ∧ P.Pairwise (far par) ∧ S.length ≤ P.length := by
  obtain ⟨D, P, h1, h2, h3, h4, h5, h6⟩ := greedy par hp n n 0 (by omega)
  have hd : dom par n D = true := (dom_iff par n D).2 fun v hv => h3 v (by omega) hv
  exact ⟨srt n D, P, srt_asc n D, dom_srt hd h2, (mem_asc n 0 _).2 ⟨h5, fun x hx => by rw [Nat.zero_add]; exact (h4 x hx).1⟩, h6, Nat.le_trans (srt_len n D) h1⟩

/-! ### A place more -/
theorem near_ext {par par' : Nat → Nat} {v u : Nat} (h : par v = par' v) (h' : par u = par' u) : near par v u ↔ near par' v u := by
  unfold near
  rw [adj_iff, adj_iff, h, h']
/-- With a place more one post more is enough. -/
theorem more_up {par par' : Nat → Nat} {n : Nat} (hpar : ∀ v, v < n → par v = par' v) {S : List Nat} (hS : S ∈ asc 0 n) (hd : dom par n S = true) : ∃ S' ∈ asc 0 (n + 1), dom par' (n + 1) S' = true ∧ S'.length ≤ S.length + 1 := by
  have hm := (mem_asc n 0 S).1 hS
  have hlt : ∀ x ∈ S, x < n := fun x hx => by have := hm.2 x hx; omega
  rw [dom_iff] at hd
  have h : dom par' (n + 1) (n :: S) = true := (dom_iff _ _ _).2 fun v hv => by
    by_cases e : v = n
    · exact ⟨n, by simp, .inl e⟩
    · obtain ⟨u, hu, q⟩ := hd v (by omega)
      exact ⟨u, by simp [hu], (near_ext (hpar v (by omega)) (hpar u (hlt u hu))).1 q⟩
  refine ⟨srt (n + 1) (n :: S), srt_asc _ _, dom_srt h ?_, ?_⟩
  · intro x hx
    rcases List.mem_cons.1 hx with rfl | hx
    · omega
    · have := hlt x hx; omega
  · have := srt_len (n + 1) (n :: S)
    simpa using this
/-- And without it none more. -/
theorem more_down {par par' : Nat → Nat} {n : Nat} (hpar : ∀ v, v < n → par v = par' v) (hlt' : ∀ v, v ≠ 0 → par' v < v) (hn : 0 < n) {S : List Nat} (hS : S ∈ asc 0 (n + 1)) (hd : dom par' (n + 1) S = true) : ∃ S' ∈ asc 0 n, dom par n S' = true ∧ S'.length ≤ S.length := by
  have hm := (mem_asc (n + 1) 0 S).1 hS
  have hlt : ∀ x ∈ S, x < n + 1 := fun x hx => by have := hm.2 x hx; omega
  rw [dom_iff] at hd
  have hb := hlt' n (by omega)
  by_cases c : n ∈ S
  · -- the post moves to the place behind
    have h : dom par n (par' n :: S.erase n) = true := (dom_iff _ _ _).2 fun v hv => by
      obtain ⟨u, hu, q⟩ := hd v (by omega)
      by_cases e : u = n
      · subst e
        refine ⟨par' u, by simp, .inl ?_⟩
        rcases q with q | q
        · omega
        · rw [adj_iff] at q
          rcases q with ⟨q1, q2⟩ | ⟨q1, q2⟩
          · have := hlt' v q1; omega
          · exact q2.symm
      · have hun : u < n := by have := hlt u hu; omega
        exact ⟨u, List.mem_cons_of_mem _ ((List.mem_erase_of_ne e).2 hu), (near_ext (hpar v hv) (hpar u hun)).2 q⟩
    have hl : ∀ x ∈ par' n :: S.erase n, x < n := fun x hx => by
      rcases List.mem_cons.1 hx with rfl | hx
      · exact hb
      · have h1 := hlt x (List.mem_of_mem_erase hx)
        have h2 : x ≠ n := by
          rintro rfl
          exact ((up_nodup hm.1).not_mem_erase) hx
        omega
    refine ⟨srt n (par' n :: S.erase n), srt_asc _ _, dom_srt h hl, ?_⟩
    have := srt_len n (par' n :: S.erase n)
    rw [List.length_cons, List.length_erase_of_mem c] at this
    have := List.length_pos_of_mem c
    omega
  · refine ⟨S, (mem_asc n 0 S).2 ⟨hm.1, fun x hx => ?_⟩, (dom_iff _ _ _).2 fun v hv => ?_, Nat.le_refl _⟩
    · have := hlt x hx
      have : x ≠ n := fun e => c (e ▸ hx)
      omega
    · obtain ⟨u, hu, q⟩ := hd v (by omega)
      have hun : u < n := by
        have := hlt u hu
        have : u ≠ n := fun e => c (e ▸ hu)
        omega
      exact ⟨u, hu, (near_ext (hpar v hv) (hpar u hun)).2 q⟩
/-! ### Prices -/
theorem cost_le_of (p q : Nat → Nat) : ∀ S : List Nat, (∀ x ∈ S, p x ≤ q x) → cost p S ≤ cost q S
  | [], _ => Nat.le_refl _
  | x :: r, h => by
    have h1 := cost_le_of p q r fun y hy => h y (by simp [hy])
    have h2 := h x (by simp)
    simp only [cost, List.map_cons, List.sum_cons] at *
    omega
/-- One price is smaller by one: a list costs at most one less. -/
theorem cost_less (p q : Nat → Nat) (b : Nat) (hq : ∀ x, x ≠ b → q x = p x) (hb : p b ≤ q b + 1) : ∀ S : List Nat, S.Nodup → cost p S ≤ cost q S + 1
  | [], _ => by simp [cost]
  | x :: r, hn => by
    obtain ⟨h1, h2⟩ := List.nodup_cons.1 hn
    have ih := cost_less p q b hq hb r h2
    simp only [cost, List.map_cons, List.sum_cons] at *
    by_cases e : x = b
    · subst e
      have : (r.map p).sum = (r.map q).sum := by
        congr 1
        apply List.map_congr_left
        intro y hy
        exact (hq y (fun c => h1 (c ▸ hy))).symm
      omega
    · rw [hq x e]; omega
end Go.Am.Post

/-
  What functions of chapter 12 compute, outright 1: a shore by numbers.
-/
set_option linter.unusedVariables false
set_option linter.unusedSimpArgs false
set_option maxRecDepth 10000
namespace Go.Am.Post
open Go.Am.G

abbrev bys (l : List Nat) : List LV := (ci l).map (LV.int .u8)
theorem ci_ln (l : List Nat) : (ci l).length = l.length := by simp
theorem getD_app {α : Type} {a b : List α} {i : Nat} {d : α} (h : i < a.length) : (a ++ b).getD i d = a.getD i d := by
  rw [List.getD_eq_getElem?_getD, List.getD_eq_getElem?_getD, List.getElem?_append_left h]
theorem getD_app2 {α : Type} {a b : List α} {i : Nat} {d : α} (h : a.length ≤ i) : (a ++ b).getD i d = b.getD (i - a.length) d := by
  rw [List.getD_eq_getElem?_getD, List.getD_eq_getElem?_getD, List.getElem?_append_right h]
theorem bytes_nat : ∀ (ns : List Int), (∀ n ∈ ns, 0 ≤ n ∧ n < 256) → ∃ bs : List Nat, ns = ci bs ∧ ∀ b ∈ bs, b < 256
  | [], _ => ⟨[], rfl, by simp⟩
  | n :: r, h => by
    obtain ⟨bs, e, hb⟩ := bytes_nat r fun x hx => h x (by simp [hx])
    obtain ⟨h0, h1⟩ := h n (by simp)
    obtain ⟨k, rfl⟩ := Int.eq_ofNat_of_zero_le h0
    refine ⟨k :: bs, by rw [e]; rfl, ?_⟩
    intro b hb'
    rcases List.mem_cons.1 hb' with rfl | hb'
    · omega
    · exact hb b hb'
theorem app_at (m : LMem) (j i : Nat) (cs : List LV) (x : LV) (hx : x.scalar = true) (h : m[j]? = some ⟨cs, true⟩) (hl : cs.length = i) (h1 : 1 ≤ i) (hs : i < 1000) :
    appendL m 1 8 (.sl j 0 i i 1 1 i) (.lst false true 1 1 [x]) = some (.sl j 0 (i + 1) (i + 1) 1 1 (i + 1), m.set j ⟨cs ++ [x], true⟩) := by
  have hc : contents m 1 (.sl j 0 i i 1 1 i) = some (cs, i) := by
    simp only [contents, h]
    simp [nbeq, nble, hl]
    rw [List.take_of_length_le (by omega)]
  have hc2 : contents m 1 (.lst false true 1 1 [x]) = some ([x], 1) := rfl
  have hr : (Nat.ble ((i + 1) * 8) roomMost && Nat.ble (i + 1) roomMost && [x].all LV.scalar) = true := by
    simp [nble, roomMost, hx]; omega
  have hle : decide (i + 1 ≤ i) = false := by simp
  have hlt : decide (i < (i + 1) * 1) = true := by simp
  unfold appendL
  simp only [hc, hc2, hr, h]
  simp only [nbeq, nble, nblt, hle, hlt]
  simp
theorem app_lit (m : LMem) (x y : LV) (hx : x.scalar = true) : appendL m 1 8 (.lst false true 1 1 [y]) (.lst false true 1 1 [x]) = some (.sl m.length 0 2 2 1 1 2, m ++ [⟨[y, x], true⟩]) := by
  simp [appendL, contents, newSl, roomMost, nbeq, nble, hx]
/-- The shore. -/
def shN (bs : List Nat) : Nat → Nat → List Int → List Int
  | 0, _, s => s
  | d + 1, i, s => shN bs d (i + 1) (s ++ [((bs.getD i 0 % i : Nat) : Int)])
def haN (bs : List Nat) : Nat → Nat → List Nat → List Nat
  | 0, _, h => h
  | d + 1, i, h => haN bs d (i + 1) (hset (h ++ [2 ^ i ||| 2 ^ (bs.getD i 0 % i)]) (bs.getD i 0 % i) i)
theorem shN_len (bs : List Nat) (d : Nat) : ∀ i s, (shN bs d i s).length = s.length + d := by
  induction d with
  | zero => intro i s; rfl
  | succ d ih => intro i s; rw [shN, ih]; simp; omega
theorem haN_len (bs : List Nat) (d : Nat) : ∀ i h, (haN bs d i h).length = h.length + d := by
  induction d with
  | zero => intro i h; rfl
  | succ d ih => intro i h; rw [haN, ih, hset_length]; simp; omega
def shoreN (n : Nat) (bs : List Nat) : List Int := shN bs (n - 1) 1 [-1]
def handN (n : Nat) (bs : List Nat) : List Nat := haN bs (n - 1) 1 [1]
theorem shN_ok (bs : List Nat) (d : Nat) : ∀ (i : Nat) (s : List Int), 1 ≤ i → s.length = i → i + d ≤ 10 → OkS s → OkS (shN bs d i s) := by
  induction d with
  | zero => intro i s _ _ _ h; exact h
  | succ d ih =>
    intro i s h1 hl h10 K
    rw [shN]
    have hm : bs.getD i 0 % i < i := Nat.mod_lt _ h1
    generalize bs.getD i 0 % i = q at *
    refine ih (i + 1) _ (by omega) (by simp [hl]) (by omega) ⟨by simp, by simp; omega, ?_, ?_⟩
    · rw [getD_app K.pos]; exact K.h0
    · intro j j0 hj
      by_cases c : j < s.length
      · rw [getD_app c]; exact K.hi j j0 c
      · have e : j = s.length := by simp at hj; omega
        subst e
        rw [getD_app2 (Nat.le_refl _)]
        simp; omega
theorem shoreN_ok (n : Nat) (h1 : 1 ≤ n) (h10 : n ≤ 10) (bs : List Nat) : OkS (shoreN n bs) ∧ (shoreN n bs).length = n := by
  refine ⟨shN_ok bs _ 1 [-1] (by omega) rfl (by omega) ⟨by simp, by simp, rfl, fun j h0 hj => by simp at hj; omega⟩, ?_⟩
  rw [shoreN, shN_len]; simp; omega
theorem small_app {h : List Nat} (H : Small h) {x : Nat} (hx : x < 1024) : Small (h ++ [x]) := fun i => by
  by_cases c : i < h.length
  · rw [getD_app c]; exact H i
  · rw [getD_app2 (by omega)]
    rcases Nat.eq_zero_or_pos (i - h.length) with e | e
    · rw [e]; simpa using hx
    · rw [List.getD_eq_getElem?_getD, List.getElem?_eq_none (by simp; omega)]; simp
theorem coast_loop (bs : List Nat) (hb10 : bs.length = 10) (hb : ∀ x ∈ bs, x < 256) (w : List LV) (hw : w[0]? = w[0]?) (n : Nat) (hn : n ≤ 10) (hwl : w.length = 11) (hwat : ∀ i, i < 10 → w[1 + i]? = some (.int .u8 ((bs.getD i 0 : Nat) : Int))) (d : Nat) : ∀ (i : Nat) (s : List Int) (h : List Nat), 2 ≤ i → i + d = n → s.length = i → h.length = i → Small h →
    exF LP law12_Coast_made.L0 [(2, .ptr 0 0 11), (6, .int .i64 (n : Int)), (7, .sl 1 0 i i 1 1 i), (8, .sl 2 0 i i 1 1 i), (9, .int .i64 (i : Int))] [⟨w, true⟩, ⟨ints s, true⟩, ⟨nats h, true⟩] =
      some (.exit 0, [(7, .sl 1 0 n n 1 1 n), (8, .sl 2 0 n n 1 1 n)], [⟨w, true⟩, ⟨ints (shN bs d i s), true⟩, ⟨nats (haN bs d i h), true⟩]) := by
  induction d with
  | zero =>
    intro i s h h2 hi hs hh H
    obtain rfl : i = n := by omega
    rw [law12_Coast_made.L0_eq, shN, haN]
    simp only [law12_Coast_made.B0, beqT, beqF, exF_seq, exF_region, exF_block, exF_cond, exF_ret, exF_exit, exF_skip, runL, wantL, stepL, evL, LEnv.at, putL, loadFine, loadL, cellsAt, Trk.putNew, Trk.up, Trk.touch, Trk.gives, Trk.calm, Trk.hit, opdsOf, Trk.fresh, LEnv.keep, LEnv.ofFrom, List.map_cons, List.map_nil, nbeq, nble, nblt, ofAV, ofAVs, lenL, bin_add, bin_sub, bin_mul, bin_eql, bin_neq, bin_lss, bin_leq, bin_gtr, bin_geq, natL_nat, natL_zero, natL_one, natL_two, Nat.zero_mul, List.any_cons, List.any_nil, Bool.or_false, Bool.false_or, Bool.true_or, Bool.or_true, Bool.and_true, Bool.true_and, Bool.and_false, Bool.false_and, Bool.not_true, Bool.not_false, Nat.reduceBEq, Nat.reduceEqDiff, decide_true, decide_false, cond_true, cond_false, List.filter_nil, List.filter_cons, Nat.reduceAdd, Nat.reduceLeDiff, reduceCtorEq, List.length_nil, List.length_cons, Nat.mul_one, if_true, if_false, Bool.false_eq_true, eq_self, and_true, true_and, retL, resultsL, resAllL, resOfL, List.append_nil, List.nil_append, List.cons_append, true_or, or_true, false_or, or_false, false_and, and_false, not_true_eq_false, not_false_eq_true, ne_eq, unL, trim_nil, views_pures, LV.pures, LV.pure, freeze, Nat.reduceDiv, Int.reduceEq, Int.reduceLT, Int.reduceLE, Int.natCast_zero, LV.cells, allocL, List.getElem?_cons_zero, List.getElem?_cons_succ, storeL, spliceL, List.take_zero, List.take_succ_cons, List.drop_zero, List.drop_succ_cons, List.drop_nil, List.take_nil, Nat.le_refl, Nat.reduceMul, List.set_cons_zero, List.set_cons_succ, LV.scalar, List.all_cons, List.all_nil, Nat.lt_add_one, Nat.zero_lt_one, Nat.reduceLT, Nat.lt_irrefl, fillL, List.length_append, foldIntL, kind_beq, pures_int, solids_int, plains_int, unders_int, scalars_int, Int.lt_irrefl]
  | succ d ih =>
    intro i s h h2 hi hs hh H
    have hm : bs.getD i 0 % i < i := Nat.mod_lt _ (by omega)
    have hat := hwat i (by omega)
    have hbi : bs.getD i 0 < 256 := by
      rw [List.getD_eq_getElem?_getD, List.getElem?_eq_getElem (by omega)]
      exact hb _ (List.getElem_mem _)
    have hwr : IntKind.i64.wrap ((bs.getD i 0 : Nat) : Int) = ((bs.getD i 0 : Nat) : Int) := wrap_in (by omega)
    have hrem : binL .rem (.int .i64 ((bs.getD i 0 : Nat) : Int)) (.int .i64 (i : Int)) = some (.int .i64 ((bs.getD i 0 % i : Nat) : Int)) := by
      rw [bin_rem _ _ _ (show (i : Int) ≠ 0 by omega)]; rfl
    rw [shN, haN]
    generalize bs.getD i 0 % i = b at *
    generalize bs.getD i 0 = x at *
    have a1 := app_at [⟨w, true⟩, ⟨ints s, true⟩, ⟨nats h, true⟩] 1 i (ints s) (.int .i64 (b : Int)) rfl rfl (by simp [hs]) (by omega) (by omega)
    have e1 : ints s ++ [.int .i64 (b : Int)] = ints (s ++ [(b : Int)]) := by simp
    rw [e1] at a1
    have a2 := app_at [⟨w, true⟩, ⟨ints (s ++ [(b : Int)]), true⟩, ⟨nats h, true⟩] 2 i (nats h) (.int .u64 ((2 ^ i ||| 2 ^ b : Nat) : Int)) rfl rfl (by simp [hh]) (by omega) (by omega)
    have e2 : nats h ++ [.int .u64 ((2 ^ i ||| 2 ^ b : Nat) : Int)] = nats (h ++ [2 ^ i ||| 2 ^ b]) := by simp
    rw [e2] at a2
    simp only [List.set_cons_succ, List.set_cons_zero] at a1 a2
    have p1 : 2 ^ i < 1024 := Nat.pow_lt_pow_right (a := 2) (n := 10) (by omega) (by omega)
    have p2 : 2 ^ b < 1024 := Nat.pow_lt_pow_right (a := 2) (n := 10) (by omega) (by omega)
    have p3 : 2 ^ i ||| 2 ^ b < 1024 := Nat.or_lt_two_pow (n := 10) p1 p2
    have H2 := small_app H p3
    have H3 := hset_small H2 b (x := i) (by omega)
    have s1 := bits_shl (i := i) (by omega)
    have s2 := bits_shl (i := b) (by omega)
    have o1 := bits_or (a := 2 ^ i) (b := 2 ^ b) (by omega) (by omega)
    have hl2 : (h ++ [2 ^ i ||| 2 ^ b]).length = i + 1 := by simp [hh]
    have hv := H2 b
    have o2 := bits_or (a := (h ++ [2 ^ i ||| 2 ^ b]).getD b 0) (b := 2 ^ i) (by omega) (by omega)
    have hg := nats_getD (h ++ [2 ^ i ||| 2 ^ b]) b (by omega)
    have hst := set_hset (h ++ [2 ^ i ||| 2 ^ b]) b i (by omega)
    have hnl : (nats (h ++ [2 ^ i ||| 2 ^ b])).length = i + 1 := by rw [nats_length]; exact hl2
    have ih := ih (i + 1) (s ++ [(b : Int)]) (hset (h ++ [2 ^ i ||| 2 ^ b]) b i) (by omega) (by omega) (by simp [hs]) (by rw [hset_length]; exact hl2) H3
    have hws := wrap_succ (show i + 1 < 9223372036854775808 by omega)
    generalize hset (h ++ [2 ^ i ||| 2 ^ b]) b i = h3 at *
    generalize (h ++ [2 ^ i ||| 2 ^ b]).getD b 0 = hv0 at *
    generalize h ++ [2 ^ i ||| 2 ^ b] = h2' at *
    generalize 2 ^ i ||| 2 ^ b = q at *
    generalize nats h2' = nh2 at *
    generalize nats h3 = nh3 at *
    generalize ints (s ++ [(b : Int)]) = is2 at *
    rw [law12_Coast_made.L0_eq]
    simp only [law12_Coast_made.B0, beqT, beqF, exF_seq, exF_region, exF_block, exF_cond, exF_ret, exF_exit, exF_skip, runL, wantL, stepL, evL, LEnv.at, putL, loadFine, loadL, cellsAt, Trk.putNew, Trk.up, Trk.touch, Trk.gives, Trk.calm, Trk.hit, opdsOf, Trk.fresh, LEnv.keep, LEnv.ofFrom, List.map_cons, List.map_nil, nbeq, nble, nblt, ofAV, ofAVs, lenL, bin_add, bin_sub, bin_mul, bin_eql, bin_neq, bin_lss, bin_leq, bin_gtr, bin_geq, natL_nat, natL_zero, natL_one, natL_two, Nat.zero_mul, List.any_cons, List.any_nil, Bool.or_false, Bool.false_or, Bool.true_or, Bool.or_true, Bool.and_true, Bool.true_and, Bool.and_false, Bool.false_and, Bool.not_true, Bool.not_false, Nat.reduceBEq, Nat.reduceEqDiff, decide_true, decide_false, cond_true, cond_false, List.filter_nil, List.filter_cons, Nat.reduceAdd, Nat.reduceLeDiff, reduceCtorEq, List.length_nil, List.length_cons, Nat.mul_one, if_true, if_false, Bool.false_eq_true, eq_self, and_true, true_and, retL, resultsL, resAllL, resOfL, List.append_nil, List.nil_append, List.cons_append, true_or, or_true, false_or, or_false, false_and, and_false, not_true_eq_false, not_false_eq_true, ne_eq, unL, trim_nil, views_pures, LV.pures, LV.pure, freeze, Nat.reduceDiv, Int.reduceEq, Int.reduceLT, Int.reduceLE, Int.natCast_zero, LV.cells, allocL, List.getElem?_cons_zero, List.getElem?_cons_succ, storeL, spliceL, List.take_zero, List.take_succ_cons, List.drop_zero, List.drop_succ_cons, List.drop_nil, List.take_nil, Nat.le_refl, Nat.reduceMul, List.set_cons_zero, List.set_cons_succ, LV.scalar, List.all_cons, List.all_nil, Nat.lt_add_one, Nat.zero_lt_one, Nat.reduceLT, Nat.lt_irrefl, fillL, List.length_append, foldIntL, kind_beq, pures_int, solids_int, plains_int, unders_int, scalars_int, show ((i : Int) < (n : Int)) by omega, show i < 10 by omega, hwl, Nat.zero_add, hat, hwr, hrem, a1, s1, s2, o1, a2, show b < i + 1 by omega, hnl, hg, o2, show b + 1 ≤ i + 1 by omega, hst, hws, ih]
end Go.Am.Post

/-
  What functions of chapter 12 compute, outright 2: plain facts for the law 'PostMore'.
-/
set_option linter.unusedVariables false
set_option linter.unusedSimpArgs false
set_option maxRecDepth 10000
namespace Go.Am.Post
open Go.Am.G

theorem anyBad_no (N : Nat) : ∀ (l : List Int) (i : Nat), (∀ j, j < l.length → 0 < i + j → 0 ≤ l.getD j 0 ∧ l.getD j 0 < ((i + j : Nat) : Int)) → anyBad i l = false
  | [], i, _ => rfl
  | x :: r, i, h => by
    rw [anyBad, Bool.or_eq_false_iff]
    refine ⟨?_, anyBad_no N r (i + 1) fun j hj h0 => ?_⟩
    · rw [Bool.eq_false_iff]
      intro c
      rw [badAt_of] at c
      have := h 0 (by simp) (by omega)
      simp at this
      omega
    · have := h (j + 1) (by simp; omega) (by omega)
      simpa [Nat.add_assoc, Nat.add_comm, Nat.add_left_comm] using this
theorem OkS.chk {s : List Int} (K : OkS s) : chkS s = 0 := by
  have hp := K.pos
  have hl := K.le
  unfold chkS
  rw [if_neg (by omega), if_neg (by omega), if_neg (by simpa using K.h0), anyBad_no s.length s 0 fun j hj h0 => by
    have := K.hi j (by omega) hj
    simpa using this]
  rfl
theorem best_min {s : List Int} (price : Nat → Nat) {S : List Nat} (hS : S ∈ asc 0 s.length) (hd : dom (par s) s.length S = true) : bestC s price ≤ cost price S :=
  ((wh_some _ _ _ _ _ _).1 (best_ok s price)).2 S hS ⟨hd, by simp, by simp⟩
theorem firstS_good (s : List Int) (price : Nat → Nat) : dom (par s) s.length (firstS s price) = true ∧ cost price (firstS s price) = bestC s price := by
  have h := List.find?_some (firstS_find s price)
  simpa [goodC] using h
theorem few_len (s : List Int) : (firstS s (fun _ => 1)).length = bestC s (fun _ => 1) := by
  have := (firstS_good s (fun _ => 1)).2
  rwa [cost_one] at this
theorem near_nb {s : List Int} (K : OkS s) {v w : Nat} (hv : v < s.length) (hw : w < s.length) : nb s v w = true ↔ near (par s) v w := by
  have key : ∀ x y : Nat, x < s.length → y < s.length → (s.getD x 0 = (y : Int) ↔ x ≠ 0 ∧ y = par s x) := fun x y hx hy => by
    by_cases e : x = 0
    · subst e
      have := K.h0
      constructor
      · intro c; omega
      · intro c; exact absurd rfl c.1
    · have := K.hi x (by omega) hx
      unfold par
      rw [if_pos hx]
      constructor
      · intro c; exact ⟨e, by omega⟩
      · intro c; omega
  simp only [nb, near, adj_iff, Bool.or_eq_true, decide_eq_true_eq]
  rw [key w v hw hv, key v w hv hw]
  constructor
  · rintro (h | ⟨a, b⟩ | h)
    · exact .inl h.symm
    · exact .inr (.inr ⟨a, b.symm⟩)
    · exact .inr (.inl h)
  · rintro (h | h | ⟨a, b⟩)
    · exact .inl h.symm
    · exact .inr (.inr h)
    · exact .inr (.inl ⟨a, b.symm⟩)
theorem far_hd {s : List Int} (K : OkS s) {a b : Nat} (ha : a < s.length) (hb : b < s.length) : hd s a &&& hd s b = 0 ↔ ∀ w, w < s.length → ¬ (near (par s) a w ∧ near (par s) b w) := by
  rw [and_zero_iff]
  constructor
  · intro h w hw c
    refine h w ?_
    unfold hd
    rw [hands_bit K ha, hands_bit K hb, (near_nb K ha hw).2 c.1, (near_nb K hb hw).2 c.2]
    simp [hw]
  · intro h w c
    unfold hd at c
    rw [hands_bit K ha, hands_bit K hb] at c
    simp only [Bool.and_eq_true, decide_eq_true_eq] at c
    exact h w c.1.2 ⟨(near_nb K ha c.1.2).1 c.1.1, (near_nb K hb c.1.2).1 c.2.1⟩
theorem far_in {s : List Int} (K : OkS s) {a b : Nat} (ha : a < s.length) (hb : b < s.length) (hab : a ≠ b) : far (par s) a b ↔ hd s a &&& hd s b = 0 := by
  rw [far_hd K ha hb]
  constructor
  · intro h w _; exact h w
  · intro h w c
    by_cases hw : w < s.length
    · exact h w hw c
    · have out : ∀ x, x < s.length → near (par s) x w → x = 0 := fun x hx q => by
        rcases q with q | q
        · omega
        · rw [adj_iff] at q
          rcases q with ⟨q1, q2⟩ | ⟨q1, q2⟩
          · have := par_lt K x q1; omega
          · unfold par at q2
            rw [if_neg hw] at q2
            exact q2.symm
      have := out a ha c.1
      have := out b hb c.2
      omega
theorem fits_far {s : List Int} (K : OkS s) {P : List Nat} (hP : P ∈ asc 0 s.length) : fits (hd s) 0 P = true ↔ P.Pairwise (far (par s)) := by
  have hm := (mem_asc _ _ _).1 hP
  have hlt : ∀ x ∈ P, x < s.length := fun x hx => by have := hm.2 x hx; omega
  have hnd := up_nodup hm.1
  rw [fits_iff]
  constructor
  · rintro ⟨_, h⟩
    have h2 := List.Pairwise.and h hnd
    exact h2.imp_of_mem fun {a b} ha hb q => (far_in K (hlt a ha) (hlt b hb) q.2).2 q.1
  · intro h
    refine ⟨fun x _ => Nat.and_zero _, ?_⟩
    have h2 := List.Pairwise.and h hnd
    exact h2.imp_of_mem fun {a b} ha hb q => (far_in K (hlt a ha) (hlt b hb) q.2).1 q.1
/-- As many places can be apart as posts are needed. -/
theorem apart_few {s : List Int} (K : OkS s) : (grM (hd s) s.length 0 0).length = bestC s (fun _ => 1) := by
  have hg := gr_find (hd s) s.length 0 0
  have h1 := List.find?_some hg
  have h2 := List.mem_of_find?_eq_some hg
  simp only [Bool.and_eq_true, decide_eq_true_eq] at h1
  obtain ⟨h3, h4⟩ := h1
  have hm := (mem_asc _ _ _).1 h2
  have hfar := (fits_far K h2).1 h3
  have hup : (grM (hd s) s.length 0 0).length ≤ (firstS s (fun _ => 1)).length := weak (par s) s.length (firstS_good s _).1 (fun p hp => by have := hm.2 p hp; omega) hfar
  rw [few_len] at hup
  obtain ⟨S, P, d1, d2, d3, d4, d5⟩ := dual (par s) (par_lt K) s.length
  have e1 := best_min (fun _ => 1) d1 d2
  rw [cost_one] at e1
  have e2 := most_le (hd s) s.length 0 0 P d3 ((fits_far K d3).2 d4)
  omega
/-- One place more: as many posts, or one more. -/
theorem more_few {s : List Int} (K : OkS s) {b : Int} (K' : OkS (s ++ [b])) : bestC s (fun _ => 1) ≤ bestC (s ++ [b]) (fun _ => 1) ∧ bestC (s ++ [b]) (fun _ => 1) ≤ bestC s (fun _ => 1) + 1 := by
  have hl : (s ++ [b]).length = s.length + 1 := by simp
  have hpar : ∀ v, v < s.length → par s v = par (s ++ [b]) v := fun v hv => by
    unfold par
    rw [if_pos hv, if_pos (by omega), getD_app hv]
  constructor
  · have h := firstS_good (s ++ [b]) (fun _ => 1)
    have ha := firstS_asc (s ++ [b]) (fun _ => 1)
    rw [hl] at h ha
    obtain ⟨S', g1, g2, g3⟩ := more_down hpar (par_lt K') K.pos ha h.1
    have := best_min (fun _ => 1) g1 g2
    rw [cost_one] at this
    rw [few_len] at g3
    omega
  · have h := firstS_good s (fun _ => 1)
    obtain ⟨S', g1, g2, g3⟩ := more_up hpar (firstS_asc s (fun _ => 1)) h.1
    have := best_min (s := s ++ [b]) (fun _ => 1) (by rw [hl]; exact g1) (by rw [hl]; exact g2)
    rw [cost_one] at this
    rw [few_len] at g3
    omega
/-- A price smaller by one. -/
theorem less_cost {s : List Int} (K : OkS s) (p q : Nat → Nat) (b : Nat) (hq : ∀ x, x ≠ b → q x = p x) (hb : p b = q b + 1) : bestC s q ≤ bestC s p ∧ bestC s p ≤ bestC s q + 1 := by
  constructor
  · have h := firstS_good s p
    have h1 := best_min q (firstS_asc s p) h.1
    have h2 := cost_le_of q p (firstS s p) fun x _ => by
      by_cases e : x = b
      · subst e; omega
      · rw [hq x e]; exact Nat.le_refl _
    omega
  · have h := firstS_good s q
    have h1 := best_min p (firstS_asc s q) h.1
    have h2 := cost_less p q b hq (by omega) (firstS s q) (up_nodup ((mem_asc _ _ _).1 (firstS_asc s q)).1)
    omega
end Go.Am.Post


