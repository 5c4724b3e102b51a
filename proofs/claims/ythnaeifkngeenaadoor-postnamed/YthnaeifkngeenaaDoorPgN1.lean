import Derived.Test.YthnaeifkngeenaaDoorPgE5
import Derived.Test.YthnaeifkngeenaaDoorPgC16
/-
  What functions of chapter 12 compute, by tables, members handed over, other names 1: plain facts: a shore under other numbers.
-/
set_option linter.unusedVariables false
set_option linter.unusedSimpArgs false
set_option maxRecDepth 10000
namespace Go.Am.Post
open Go.Am.G

theorem len_leA {α : Type} [DecidableEq α] : ∀ (A B : List α), A.Nodup → (∀ x ∈ A, x ∈ B) → A.length ≤ B.length
  | [], B, _, _ => Nat.zero_le _
  | a :: r, B, hn, h => by
    rw [List.nodup_cons] at hn
    have ha := h a (by simp)
    have := len_leA r (B.erase a) hn.2 fun x hx => (List.mem_erase_of_ne (fun e => hn.1 (by rw [← e]; exact hx))).2 (h x (by simp [hx]))
    rw [List.length_erase_of_mem ha] at this
    have hp := List.length_pos_of_mem ha
    simp only [List.length_cons]
    omega
theorem full_of {α : Type} [DecidableEq α] {A B : List α} (hn : A.Nodup) (h : ∀ x ∈ A, x ∈ B) (hl : B.length ≤ A.length) : ∀ x ∈ B, x ∈ A := by
  intro x hx
  by_cases c : x ∈ A
  · exact c
  · have := len_leA (x :: A) B (List.nodup_cons.2 ⟨c, hn⟩) fun y hy => by
      rcases List.mem_cons.1 hy with rfl | hy
      · exact hx
      · exact h y hy
    simp only [List.length_cons] at this
    omega
theorem perm_of {α : Type} [DecidableEq α] {A B : List α} (hA : A.Nodup) (hB : B.Nodup) (h : ∀ x ∈ A, x ∈ B) (hl : B.length ≤ A.length) : A.Perm B :=
  (List.perm_ext_iff_of_nodup hA hB).2 fun x => ⟨h x, full_of hA h hl x⟩
theorem asc_nodup (n : Nat) : (asc 0 n).Nodup := (asc_lex n 0).imp fun h e => by subst e; exact lexLt_irr _ h
theorem asc_up {n : Nat} {S : List Nat} (h : S ∈ asc 0 n) : up 0 S ∧ ∀ x ∈ S, x < n := by
  have := (mem_asc _ _ _).1 h
  exact ⟨this.1, fun x hx => by have := this.2 x hx; omega⟩

/-- Other numbers. -/
structure Ren (s t : List Int) (σ : Nat → Nat) : Prop where
  len : t.length = s.length
  lt : ∀ i, i < s.length → σ i < s.length
  inj : ∀ i j, i < s.length → j < s.length → σ i = σ j → i = j
  nb : ∀ i j, i < s.length → j < s.length → nb t i j = nb s (σ i) (σ j)
section
variable {s t : List Int} {σ : Nat → Nat} (R : Ren s t σ)
include R
theorem Ren.sur (v : Nat) (hv : v < s.length) : ∃ i, i < s.length ∧ σ i = v := by
  have hA : ((List.range s.length).map σ).Nodup := by
    rw [List.Nodup, List.pairwise_map]
    refine List.Pairwise.imp_of_mem (fun {a b} ha hb hab e => ?_) (List.pairwise_lt_range (n := s.length))
    rw [List.mem_range] at ha hb
    have := R.inj a b ha hb e
    omega
  have := full_of hA (B := List.range s.length) (fun x hx => by
    obtain ⟨i, hi, rfl⟩ := List.mem_map.1 hx
    rw [List.mem_range] at hi ⊢
    exact R.lt i hi) (by simp) v (by simpa using hv)
  obtain ⟨i, hi, e⟩ := List.mem_map.1 this
  exact ⟨i, by simpa using hi, e⟩
end
def img (n : Nat) (σ : Nat → Nat) (S : List Nat) : List Nat := (List.range n).filter fun v => S.any fun i => decide (σ i = v)
theorem img_mem (n : Nat) (σ : Nat → Nat) (S : List Nat) (v : Nat) : v ∈ img n σ S ↔ v < n ∧ ∃ i ∈ S, σ i = v := by
  simp [img, List.mem_filter]
theorem img_asc (n : Nat) (σ : Nat → Nat) (S : List Nat) : img n σ S ∈ asc 0 n :=
  (mem_asc _ _ _).2 ⟨up_filter _ (by rw [List.range_eq_range']; exact up_range' n 0), fun x hx => by have := ((img_mem _ _ _ _).1 hx).1; omega⟩
section
variable {s t : List Int} {σ : Nat → Nat} (R : Ren s t σ)
include R
theorem img_at {S : List Nat} (hS : S ∈ asc 0 s.length) {i : Nat} (hi : i < s.length) : σ i ∈ img s.length σ S ↔ i ∈ S := by
  rw [img_mem]
  constructor
  · rintro ⟨_, j, hj, e⟩
    have := R.inj j i ((asc_up hS).2 j hj) hi e
    rw [← this]; exact hj
  · exact fun h => ⟨R.lt i hi, i, h, rfl⟩
theorem img_len {S : List Nat} (hS : S ∈ asc 0 s.length) : (img s.length σ S).length = S.length := by
  have h := asc_up hS
  have hm : (S.map σ).Nodup := by
    rw [List.Nodup, List.pairwise_map]
    refine List.Pairwise.imp_of_mem (fun {a b} ha hb hab e => hab (R.inj a b (h.2 a ha) (h.2 b hb) e)) (up_nodup h.1)
  have h1 := len_leA (S.map σ) (img s.length σ S) hm fun x hx => by
    obtain ⟨i, hi, rfl⟩ := List.mem_map.1 hx
    exact (img_at R hS (h.2 i hi)).2 hi
  have h2 := len_leA (img s.length σ S) (S.map σ) (up_nodup (asc_up (img_asc _ _ _)).1) fun x hx => by
    obtain ⟨_, i, hi, e⟩ := (img_mem _ _ _ _).1 hx
    exact List.mem_map.2 ⟨i, hi, e⟩
  rw [List.length_map] at h1 h2
  omega
theorem img_perm : ((asc 0 s.length).map (img s.length σ)).Perm (asc 0 s.length) := by
  refine perm_of ?_ (asc_nodup _) (fun x hx => by obtain ⟨S, _, rfl⟩ := List.mem_map.1 hx; exact img_asc _ _ _) (by simp)
  rw [List.Nodup, List.pairwise_map]
  refine List.Pairwise.imp_of_mem (fun {a b} ha hb hab e => hab ?_) (asc_nodup s.length)
  have h1 := asc_up ha
  have h2 := asc_up hb
  refine up_ext h1.1 h2.1 fun x => ?_
  constructor
  · intro hx
    have := h1.2 x hx
    rw [← img_at R hb this, ← e, img_at R ha this]; exact hx
  · intro hx
    have := h2.2 x hx
    rw [← img_at R ha this, e, img_at R hb this]; exact hx
theorem img_grd {S : List Nat} (hS : S ∈ asc 0 s.length) : grdB s (img s.length σ S) = grdB t S := by
  rw [Bool.eq_iff_iff]
  unfold grdB
  simp only [List.all_eq_true, List.any_eq_true, List.mem_range, R.len]
  have h := asc_up hS
  constructor
  · intro H j hj
    obtain ⟨u, hu, hn⟩ := H (σ j) (R.lt j hj)
    obtain ⟨_, i, hi, rfl⟩ := (img_mem _ _ _ _).1 hu
    exact ⟨i, hi, by rw [R.nb j i hj (h.2 i hi)]; exact hn⟩
  · intro H v hv
    obtain ⟨j, hj, rfl⟩ := R.sur v hv
    obtain ⟨i, hi, hn⟩ := H j hj
    refine ⟨σ i, (img_at R hS (h.2 i hi)).2 hi, ?_⟩
    rw [← R.nb j i hj (h.2 i hi)]; exact hn
theorem gs_ren : ((gs t).map (img s.length σ)).Perm (gs s) := by
  unfold gs
  rw [R.len]
  have h1 := (img_perm R).filter (grdB s)
  rw [List.filter_map] at h1
  have e : (asc 0 s.length).filter (grdB s ∘ img s.length σ) = (asc 0 s.length).filter (grdB t) := List.filter_congr fun S hS => img_grd R hS
  rw [e] at h1
  exact h1
theorem gs_ren_mem (S : List Nat) (hS : S ∈ gs t) : img s.length σ S ∈ gs s := (gs_ren R).mem_iff.1 (List.mem_map.2 ⟨S, hS, rfl⟩)
theorem gs_ren_back (S : List Nat) (hS : S ∈ gs s) : ∃ S' ∈ gs t, img s.length σ S' = S := List.mem_map.1 ((gs_ren R).mem_iff.2 hS)
theorem gs_asc {S : List Nat} (hS : S ∈ gs t) : S ∈ asc 0 s.length := by rw [← R.len]; exact (List.mem_filter.1 hS).1
variable (K : OkS s) (K' : OkS t)
include K K'
theorem few_ren : bestC t (fun _ => 1) = bestC s (fun _ => 1) := by
  obtain ⟨a1, l, hl, e⟩ := few_min K
  obtain ⟨b1, l', hl', e'⟩ := few_min K'
  obtain ⟨l2, hl2, rfl⟩ := gs_ren_back R l hl
  rw [img_len R (gs_asc R hl2)] at e
  have := b1 l2 hl2
  have h3 := a1 _ (gs_ren_mem R l' hl')
  rw [img_len R (gs_asc R hl')] at h3
  omega
theorem cnt_ren : cntV t = cntV s := by
  rw [cntV, cntV, if_pos K.chk, if_pos K'.chk, ← (gs_ren R).length_eq, List.length_map]
end
theorem small_gs {s : List Int} (K : OkS s) : smallS s = (gs s).filter (fun l => decide (l.length = bestC s (fun _ => 1))) := by
  rw [gs_dom K, List.filter_filter, smallS]
  refine List.filter_congr fun S _ => ?_
  rw [goodC, cost_one, Bool.and_comm]
section
variable {s t : List Int} {σ : Nat → Nat} (R : Ren s t σ) (K : OkS s) (K' : OkS t)
include R K K'
theorem small_ren : ((smallS t).map (img s.length σ)).Perm (smallS s) := by
  rw [small_gs K, small_gs K']
  have h := (gs_ren R).filter (fun l => decide (l.length = bestC s (fun _ => 1)))
  rw [List.filter_map] at h
  have e : (gs t).filter ((fun l => decide (l.length = bestC s (fun _ => 1))) ∘ img s.length σ) = (gs t).filter (fun l => decide (l.length = bestC t (fun _ => 1))) := List.filter_congr fun S hS => by
    show decide ((img s.length σ S).length = _) = _
    rw [img_len R (gs_asc R hS), few_ren R K K']
  rw [e] at h
  exact h
theorem way_ren : wayV t = wayV s := by
  rw [wayV, wayV, if_pos K.chk, if_pos K'.chk, ← (small_ren R K K').length_eq, List.length_map]
theorem apt_ren : (grM (hd t) t.length 0 0).length = (grM (hd s) s.length 0 0).length := by
  rw [apart_few K, apart_few K', few_ren R K K']
end
theorem alw_mem {s : List Int} (K : OkS s) (p : Nat) : p ∈ askV s (fun _ => 0) (fun x => x) ↔ p < s.length ∧ ∀ l ∈ smallS s, p ∈ l := by
  rw [askV, if_pos K.chk, always_eq K, oftL, List.mem_filter, decide_eq_true_eq, hasN, List.length_filter_eq_length_iff]
  simp only [decide_eq_true_eq, List.mem_range'_1, Nat.zero_le, true_and, Nat.zero_add]
theorem alw_up {s : List Int} (K : OkS s) : up 0 (askV s (fun _ => 0) (fun x => x)) := by
  rw [askV, if_pos K.chk, always_eq K]
  exact up_filter _ (up_range' _ _)
section
variable {s t : List Int} {σ : Nat → Nat} (R : Ren s t σ) (K : OkS s) (K' : OkS t)
include R K K'
theorem alw_ren {p : Nat} (hp : p < s.length) : σ p ∈ askV s (fun _ => 0) (fun x => x) ↔ p ∈ askV t (fun _ => 0) (fun x => x) := by
  rw [alw_mem K, alw_mem K', R.len]
  constructor
  · rintro ⟨_, h⟩
    refine ⟨hp, fun l hl => ?_⟩
    have hla : l ∈ asc 0 s.length := by rw [← R.len]; exact (List.mem_filter.1 hl).1
    have := h _ ((small_ren R K K').mem_iff.1 (List.mem_map.2 ⟨l, hl, rfl⟩))
    exact (img_at R hla hp).1 this
  · rintro ⟨_, h⟩
    refine ⟨R.lt p hp, fun l hl => ?_⟩
    obtain ⟨l', hl', rfl⟩ := List.mem_map.1 ((small_ren R K K').mem_iff.2 hl)
    have hla : l' ∈ asc 0 s.length := by rw [← R.len]; exact (List.mem_filter.1 hl').1
    exact (img_at R hla hp).2 (h l' hl')
theorem alw_len : (askV t (fun _ => 0) (fun x => x)).length = (askV s (fun _ => 0) (fun x => x)).length := by
  have hlt : ∀ x ∈ askV t (fun _ => 0) (fun x => x), x < s.length := fun x hx => by have := ((alw_mem K' x).1 hx).1; rw [R.len] at this; exact this
  have hm : ((askV t (fun _ => 0) (fun x => x)).map σ).Nodup := by
    rw [List.Nodup, List.pairwise_map]
    exact List.Pairwise.imp_of_mem (fun {a b} ha hb hab e => hab (R.inj a b (hlt a ha) (hlt b hb) e)) (up_nodup (alw_up K'))
  have h1 := len_leA _ (askV s (fun _ => 0) (fun x => x)) hm fun x hx => by
    obtain ⟨i, hi, rfl⟩ := List.mem_map.1 hx
    exact (alw_ren R K K' (hlt i hi)).2 hi
  have h2 := len_leA _ ((askV t (fun _ => 0) (fun x => x)).map σ) (up_nodup (alw_up K)) fun x hx => by
    obtain ⟨i, hi, rfl⟩ := R.sur x ((alw_mem K x).1 hx).1
    exact List.mem_map.2 ⟨i, (alw_ren R K K' hi).1 hx, rfl⟩
  rw [List.length_map] at h1 h2
  omega
end
end Go.Am.Post

/-
  What functions of chapter 12 compute, by tables, members handed over, other names 2: plain facts: places one after the other.
-/
set_option linter.unusedVariables false
set_option linter.unusedSimpArgs false
set_option maxRecDepth 10000
namespace Go.Am.Post
open Go.Am.G

def addN (i : Nat) : List Nat → List Nat → List Int → List Nat × List Int
  | [], O, T => (O, T)
  | p :: r, O, T => if p ∈ O then addN i r O T else addN i r (O ++ [p]) (T ++ [(i : Int)])
def nearL (s : List Int) (turn : Bool) (v : Nat) : List Nat := if turn then (memL (hd s v)).reverse else memL (hd s v)
def bfs (s : List Int) (turn : Bool) : Nat → Nat → List Nat → List Int → List Nat × List Int
  | 0, _, O, T => (O, T)
  | f + 1, i, O, T => if i < O.length then bfs s turn f (i + 1) (addN i (nearL s turn (O.getD i 0)) O T).1 (addN i (nearL s turn (O.getD i 0)) O T).2 else (O, T)
structure Inv (s : List Int) (k : Nat) (O : List Nat) (T : List Int) : Prop where
  nodup : O.Nodup
  lt : ∀ x ∈ O, x < s.length
  len : T.length = O.length
  pos : 0 < O.length
  h0 : T.getD 0 0 = -1
  par : ∀ j, 0 < j → j < O.length → ∃ i : Nat, T.getD j 0 = (i : Int) ∧ i < j ∧ nb s (O.getD i 0) (O.getD j 0) = true
  cl : ∀ i, i < k → i < O.length → ∀ u, u < s.length → nb s (O.getD i 0) u = true → u ∈ O
theorem getD_mem {O : List Nat} {i : Nat} (h : i < O.length) : O.getD i 0 ∈ O := by
  rw [List.getD_eq_getElem?_getD, List.getElem?_eq_getElem h]; exact List.getElem_mem _
theorem Inv.le {s : List Int} {k : Nat} {O : List Nat} {T : List Int} (H : Inv s k O T) : O.length ≤ s.length := by
  have := len_leA O (List.range s.length) H.nodup fun x hx => by simpa using H.lt x hx
  simpa using this
theorem near_mem {s : List Int} (K : OkS s) {v : Nat} (hv : v < s.length) (turn : Bool) (p : Nat) : p ∈ nearL s turn v ↔ p < s.length ∧ nb s v p = true := by
  have e : p ∈ nearL s turn v ↔ p ∈ memL (hd s v) := by
    unfold nearL
    split
    · rw [List.mem_reverse]
    · rfl
  have hb := hands_bit K hv p
  have hlt : hd s v < 1024 := hands_lt K v
  rw [e, bit_mem hlt]
  change (hd s v).testBit p = _ at hb
  rw [hb, Bool.and_eq_true, decide_eq_true_eq, and_comm]
theorem add_ok {s : List Int} (v : Nat) (k : Nat) : ∀ (r : List Nat) (O : List Nat) (T : List Int), Inv s k O T → k < O.length → O.getD k 0 = v → (∀ p ∈ r, p < s.length ∧ nb s v p = true) →
    Inv s k (addN k r O T).1 (addN k r O T).2 ∧ (∀ x ∈ O, x ∈ (addN k r O T).1) ∧ (∀ p ∈ r, p ∈ (addN k r O T).1) ∧ k < (addN k r O T).1.length ∧ (addN k r O T).1.getD k 0 = v
  | [], O, T, H, hk, hv, _ => ⟨H, fun x hx => hx, (fun p hp => by cases hp), hk, hv⟩
  | p :: r, O, T, H, hk, hv, h => by
    rw [addN]
    have hp := h p (by simp)
    have hr : ∀ q ∈ r, q < s.length ∧ nb s v q = true := fun q hq => h q (by simp [hq])
    by_cases c : p ∈ O
    · rw [if_pos c]
      obtain ⟨a1, a2, a3, a4, a5⟩ := add_ok v k r O T H hk hv hr
      refine ⟨a1, a2, fun q hq => ?_, a4, a5⟩
      rcases List.mem_cons.1 hq with rfl | hq
      · exact a2 _ c
      · exact a3 q hq
    · rw [if_neg c]
      have old : ∀ {i}, i < O.length → (O ++ [p]).getD i 0 = O.getD i 0 := fun {i} hi => getD_app hi
      have oldT : ∀ {i}, i < O.length → (T ++ [(k : Int)]).getD i 0 = T.getD i 0 := fun {i} hi => getD_app (by rw [H.len]; exact hi)
      have H' : Inv s k (O ++ [p]) (T ++ [(k : Int)]) := by
        refine ⟨?_, fun x hx => ?_, by simp [H.len], by simp, by rw [oldT H.pos]; exact H.h0, fun j j0 hj => ?_, fun i hi hi2 u hu hn => ?_⟩
        · rw [List.nodup_append]
          refine ⟨H.nodup, by simp, fun a ha b hb e => ?_⟩
          rw [List.mem_singleton] at hb
          subst hb; subst e; exact c ha
        · rcases List.mem_append.1 hx with hx | hx
          · exact H.lt x hx
          · rw [List.mem_singleton.1 hx]; exact hp.1
        · by_cases q : j < O.length
          · obtain ⟨i, e1, e2, e3⟩ := H.par j j0 q
            exact ⟨i, by rw [oldT q]; exact e1, e2, by rw [old (by omega), old q]; exact e3⟩
          · have e : j = O.length := by simp at hj; omega
            subst e
            refine ⟨k, ?_, hk, ?_⟩
            · rw [← H.len]; exact getD_last T _ 0
            · rw [getD_last, old hk, hv]; exact hp.2
        · have := H.cl i hi (by omega) u hu (by rw [← old (show i < O.length by omega)]; exact hn)
          simp [this]
      obtain ⟨a1, a2, a3, a4, a5⟩ := add_ok v k r _ _ H' (by simp; omega) (by rw [old hk]; exact hv) hr
      refine ⟨a1, fun x hx => a2 x (by simp [hx]), fun q hq => ?_, a4, a5⟩
      rcases List.mem_cons.1 hq with rfl | hq
      · exact a2 _ (by simp)
      · exact a3 q hq
theorem inv_step {s : List Int} (K : OkS s) (turn : Bool) {k : Nat} {O : List Nat} {T : List Int} (H : Inv s k O T) (hk : k < O.length) : Inv s (k + 1) (addN k (nearL s turn (O.getD k 0)) O T).1 (addN k (nearL s turn (O.getD k 0)) O T).2 := by
  have hv := H.lt _ (getD_mem hk)
  obtain ⟨a1, a2, a3, a4, a5⟩ := add_ok (O.getD k 0) k (nearL s turn (O.getD k 0)) O T H hk rfl (fun p hp => (near_mem K hv turn p).1 hp)
  refine ⟨a1.nodup, a1.lt, a1.len, a1.pos, a1.h0, a1.par, fun i hi hi2 u hu hn => ?_⟩
  by_cases c : i < k
  · exact a1.cl i c hi2 u hu hn
  · obtain rfl : i = k := by omega
    rw [a5] at hn
    exact a3 u ((near_mem K hv turn u).2 ⟨hu, hn⟩)
theorem bfs_inv {s : List Int} (K : OkS s) (turn : Bool) : ∀ (f k : Nat) (O : List Nat) (T : List Int), Inv s k O T → s.length ≤ f + k → Inv s (bfs s turn f k O T).1.length (bfs s turn f k O T).1 (bfs s turn f k O T).2
  | 0, k, O, T, H, h => by
    have := H.le
    exact ⟨H.nodup, H.lt, H.len, H.pos, H.h0, H.par, fun i hi hi2 => H.cl i (by simp only [bfs] at hi; omega) hi2⟩
  | f + 1, k, O, T, H, h => by
    rw [bfs]
    by_cases c : k < O.length
    · rw [if_pos c]
      exact bfs_inv K turn f (k + 1) _ _ (inv_step K turn H c) (by omega)
    · rw [if_neg c]
      exact ⟨H.nodup, H.lt, H.len, H.pos, H.h0, H.par, fun i hi hi2 => H.cl i (by simp only at hi; omega) hi2⟩
theorem inv_start {s : List Int} {r : Nat} (hr : r < s.length) : Inv s 0 [r] [-1] :=
  ⟨by simp, fun x hx => by rw [List.mem_singleton.1 hx]; exact hr, rfl, by simp, rfl, fun j j0 hj => by simp at hj; omega, fun i hi => by omega⟩
section
variable {s : List Int} (K : OkS s) {O : List Nat} {T : List Int} (H : Inv s O.length O T)
include K H
omit K in
theorem inv_nb {x u : Nat} (hx : x ∈ O) (hu : u < s.length) (hn : nb s x u = true) : u ∈ O := by
  obtain ⟨i, hi, e⟩ := List.getElem_of_mem hx
  refine H.cl i hi hi u hu ?_
  rw [List.getD_eq_getElem?_getD, List.getElem?_eq_getElem hi]
  simp only [Option.getD_some, e]
  exact hn
theorem inv_zero : ∀ (m x : Nat), x ≤ m → x ∈ O → 0 ∈ O
  | 0, x, hm, hx => by have : x = 0 := by omega
                       rw [← this]; exact hx
  | m + 1, x, hm, hx => by
    by_cases c : x = 0
    · rw [← c]; exact hx
    · have hxs := H.lt x hx
      obtain ⟨h1, h2⟩ := K.hi x (by omega) hxs
      obtain ⟨q, hq⟩ := Int.eq_ofNat_of_zero_le h1
      have hqx : q < x := by omega
      exact inv_zero m q (by omega) (inv_nb H hx (by omega) (by simp only [nb, Bool.or_eq_true, decide_eq_true_eq]; exact .inr (.inr hq)))
theorem inv_all : ∀ (m v : Nat), v ≤ m → v < s.length → v ∈ O
  | 0, v, hm, hv => by
    have : v = 0 := by omega
    rw [this]
    exact inv_zero K H _ _ (Nat.le_refl _) (getD_mem H.pos)
  | m + 1, v, hm, hv => by
    by_cases c : v = 0
    · exact inv_all 0 v (by omega) hv
    · obtain ⟨h1, h2⟩ := K.hi v (by omega) hv
      obtain ⟨q, hq⟩ := Int.eq_ofNat_of_zero_le h1
      have := inv_all m q (by omega) (by omega)
      exact inv_nb H this hv (by simp only [nb, Bool.or_eq_true, decide_eq_true_eq]; exact .inr (.inl hq))
theorem inv_len : O.length = s.length := by
  have h1 := H.le
  have h2 := len_leA (List.range s.length) O List.nodup_range fun x hx => inv_all K H x x (Nat.le_refl _) (by simpa using hx)
  simp at h2
  omega
theorem inv_oks : OkS T := by
  have hl := inv_len K H
  refine ⟨by rw [H.len]; exact H.pos, by rw [H.len, hl]; exact K.le, H.h0, fun j j0 hj => ?_⟩
  obtain ⟨i, e1, e2, _⟩ := H.par j j0 (by rw [← H.len]; exact hj)
  rw [e1]; omega
theorem inv_inj {i j : Nat} (hi : i < s.length) (hj : j < s.length) (e : O.getD i 0 = O.getD j 0) : i = j := by
  have hl := inv_len K H
  rw [List.getD_eq_getElem?_getD, List.getD_eq_getElem?_getD, List.getElem?_eq_getElem (by omega), List.getElem?_eq_getElem (by omega)] at e
  simp only [Option.getD_some] at e
  rcases Nat.lt_trichotomy i j with h | h | h
  · exact absurd e (List.pairwise_iff_getElem.1 H.nodup i j _ _ h)
  · exact h
  · exact absurd e.symm (List.pairwise_iff_getElem.1 H.nodup j i _ _ h)
/-- The one of both that is behind the other one. -/
def chd (s : List Int) (O : List Nat) (T : List Int) (j : Nat) : Nat := if s.getD (O.getD j 0) 0 = ((O.getD (T.getD j 0).toNat 0 : Nat) : Int) then O.getD j 0 else O.getD (T.getD j 0).toNat 0
theorem chd_ok {j : Nat} (j0 : 0 < j) (hj : j < s.length) : ∃ i : Nat, T.getD j 0 = (i : Int) ∧ i < j ∧ chd s O T j < s.length ∧ chd s O T j ≠ 0 ∧ ((chd s O T j = O.getD j 0 ∧ s.getD (O.getD j 0) 0 = ((O.getD i 0 : Nat) : Int)) ∨ (chd s O T j = O.getD i 0 ∧ s.getD (O.getD i 0) 0 = ((O.getD j 0 : Nat) : Int))) := by
  have hl := inv_len K H
  obtain ⟨i, e1, e2, e3⟩ := H.par j j0 (by omega)
  have hne : O.getD i 0 ≠ O.getD j 0 := fun e => by have := inv_inj K H (by omega) hj e; omega
  have li := H.lt _ (getD_mem (show i < O.length by omega))
  have lj := H.lt _ (getD_mem (show j < O.length by omega))
  have hz : ∀ x y : Nat, s.getD x 0 = ((y : Nat) : Int) → x ≠ 0 := fun x y h e => by subst e; rw [K.h0] at h; omega
  refine ⟨i, e1, e2, ?_⟩
  unfold chd
  rw [e1, Int.toNat_natCast]
  by_cases c : s.getD (O.getD j 0) 0 = ((O.getD i 0 : Nat) : Int)
  · rw [if_pos c]
    exact ⟨lj, hz _ _ c, .inl ⟨rfl, c⟩⟩
  · rw [if_neg c]
    have c2 : s.getD (O.getD i 0) 0 = ((O.getD j 0 : Nat) : Int) := by
      unfold nb at e3
      simp only [Bool.or_eq_true, decide_eq_true_eq] at e3
      rcases e3 with e | e | e
      · exact absurd e.symm hne
      · exact absurd e c
      · exact e
    exact ⟨li, hz _ _ c2, .inr ⟨rfl, c2⟩⟩
theorem chd_inj {j j' : Nat} (j0 : 0 < j) (hj : j < s.length) (j0' : 0 < j') (hj' : j' < s.length) (e : chd s O T j = chd s O T j') : j = j' := by
  obtain ⟨i, _, hij, _, _, h⟩ := chd_ok K H j0 hj
  obtain ⟨i', _, hij', _, _, h'⟩ := chd_ok K H j0' hj'
  have inj : ∀ {a b : Nat}, a < s.length → b < s.length → O.getD a 0 = O.getD b 0 → a = b := fun ha hb e => inv_inj K H ha hb e
  rcases h with ⟨a1, a2⟩ | ⟨a1, a2⟩ <;> rcases h' with ⟨b1, b2⟩ | ⟨b1, b2⟩
  · exact inj hj hj' (by rw [← a1, e, b1])
  · have q1 := inj hj (show i' < s.length by omega) (by rw [← a1, e, b1])
    rw [← a1, e, b1, b2] at a2
    have q2 := inj hj' (show i < s.length by omega) (by omega)
    omega
  · have q1 := inj (show i < s.length by omega) hj' (by rw [← a1, e, b1])
    rw [← a1, e, b1, b2] at a2
    have q2 := inj (show i' < s.length by omega) hj (by omega)
    omega
  · rw [← a1, e, b1, b2] at a2
    exact inj hj hj' (by omega)
theorem chd_sur {c : Nat} (c0 : c ≠ 0) (hc : c < s.length) : ∃ j, 0 < j ∧ j < s.length ∧ chd s O T j = c := by
  have hA : ((List.range' 1 (s.length - 1)).map (chd s O T)).Nodup := by
    rw [List.Nodup, List.pairwise_map]
    refine List.Pairwise.imp_of_mem (fun {a b} ha hb hab e => ?_) (List.pairwise_lt_range' (s := 1) (n := s.length - 1))
    rw [List.mem_range'_1] at ha hb
    have := chd_inj K H (by omega) (by omega) (by omega) (by omega) e
    omega
  have := full_of hA (B := List.range' 1 (s.length - 1)) (fun x hx => by
    obtain ⟨i, hi, rfl⟩ := List.mem_map.1 hx
    rw [List.mem_range'_1] at hi ⊢
    obtain ⟨_, _, _, h1, h2, _⟩ := chd_ok K H (j := i) (by omega) (by omega)
    omega) (by simp) c (by rw [List.mem_range'_1]; omega)
  obtain ⟨j, hj, e⟩ := List.mem_map.1 this
  rw [List.mem_range'_1] at hj
  exact ⟨j, by omega, by omega, e⟩
theorem edge_back {i j : Nat} (hi : i < s.length) (hj : j < s.length) (h : s.getD (O.getD j 0) 0 = ((O.getD i 0 : Nat) : Int)) : T.getD j 0 = (i : Int) ∨ T.getD i 0 = (j : Int) := by
  have hl := inv_len K H
  have c0 : O.getD j 0 ≠ 0 := fun e => by rw [e, K.h0] at h; omega
  obtain ⟨k, k0, hk, e⟩ := chd_sur K H c0 (H.lt _ (getD_mem (show j < O.length by omega)))
  obtain ⟨q, e1, e2, _, _, h3⟩ := chd_ok K H k0 hk
  rw [e] at h3
  have inj : ∀ {a b : Nat}, a < s.length → b < s.length → O.getD a 0 = O.getD b 0 → a = b := fun ha hb e => inv_inj K H ha hb e
  rcases h3 with ⟨a1, a2⟩ | ⟨a1, a2⟩
  · have := inj hj hk a1
    subst this
    rw [h] at a2
    have := inj hi (show q < s.length by omega) (by omega)
    subst this
    exact .inl e1
  · have := inj hj (show q < s.length by omega) a1
    subst this
    rw [h] at a2
    have := inj hi hk (by omega)
    subst this
    exact .inr e1
theorem inv_ren : Ren s T (fun i => O.getD i 0) := by
  have hl := inv_len K H
  refine ⟨by rw [H.len, hl], fun i hi => H.lt _ (getD_mem (by omega)), fun i j hi hj e => inv_inj K H hi hj e, fun i j hi hj => ?_⟩
  have fwd : ∀ {a b : Nat}, a < s.length → b < s.length → T.getD b 0 = (a : Int) → nb s (O.getD a 0) (O.getD b 0) = true := fun {a b} ha hb e => by
    have b0 : 0 < b := by
      by_cases c : b = 0
      · subst c; rw [H.h0] at e; omega
      · omega
    obtain ⟨q, e1, e2, e3⟩ := H.par b b0 (by omega)
    have : q = a := by omega
    subst this
    exact e3
  have sym : ∀ a b : Nat, nb s a b = true → nb s b a = true := fun a b h => by
    unfold nb at *
    simp only [Bool.or_eq_true, decide_eq_true_eq] at *
    rcases h with h | h | h
    · exact .inl h.symm
    · exact .inr (.inr h)
    · exact .inr (.inl h)
  rw [Bool.eq_iff_iff]
  constructor
  · intro h
    unfold nb at h
    simp only [Bool.or_eq_true, decide_eq_true_eq] at h
    rcases h with h | h | h
    · subst h; unfold nb; simp
    · exact fwd hi hj h
    · exact sym _ _ (fwd hj hi h)
  · intro h
    unfold nb at h ⊢
    simp only [Bool.or_eq_true, decide_eq_true_eq] at h ⊢
    rcases h with h | h | h
    · exact .inl (inv_inj K H hj hi h)
    · rcases edge_back K H hi hj h with e | e
      · exact .inr (.inl e)
      · exact .inr (.inr e)
    · rcases edge_back K H hj hi h with e | e
      · exact .inr (.inr e)
      · exact .inr (.inl e)
end
end Go.Am.Post

/-
  What functions of chapter 12 compute, by tables, members handed over, other names 3: places one after the other, in memory.
-/
set_option linter.unusedVariables false
set_option linter.unusedSimpArgs false
set_option maxRecDepth 10000
set_option maxHeartbeats 400000
namespace Go.Am.Post
open Go.Am.G

/-! ### Contains -/
def idxI (x : Int) : List Int → Nat → Int
  | [], _ => -1
  | a :: r, k => if x = a then (k : Int) else idxI x r (k + 1)
theorem idxI_mem (x : Int) : ∀ (l : List Int) (k : Nat), (0 ≤ idxI x l k) ↔ x ∈ l
  | [], k => by simp [idxI]
  | a :: r, k => by
    rw [idxI]
    by_cases h : x = a
    · simp [h]
    · simp [h, idxI_mem x r (k + 1)]
theorem intl_at (l : List Int) (k : Nat) (h : k < l.length) : (ints l)[k]? = some (.int .i64 l[k]) := by simp [h]
theorem index_loopI (nl ex : Bool) (sz : Nat) (l : List Int) (x : Int) (hl : l.length < 1000000) (n : Nat) : ∀ k, k + n = l.length →
    exF LP slices_Index_int_int.L0 [(0, IL nl ex sz l), (1, .int .i64 x), (7, .int .i64 (l.length : Int)), (8, .int .i64 (k : Int))] [] =
      if idxI x (l.drop k) k < 0 then some (.exit 0, [], []) else some (.ret, [(4, .int .i64 (idxI x (l.drop k) k))], []) := by
  induction n with
  | zero =>
    intro k hk
    rw [slices_Index_int_int.L0_eq]
    simp only [slices_Index_int_int.B0, beqT, beqF, exF_seq, exF_region, exF_block, exF_cond, exF_ret, exF_exit, exF_skip, runL, wantL, stepL, evL, evC, LEnv.at, putL, loadFine, loadL, cellsAt, Trk.putNew, Trk.up, Trk.touch, Trk.gives, Trk.calm, Trk.hit, opdsOf, Trk.fresh, LEnv.keep, LEnv.ofFrom, List.map_cons, List.map_nil, nbeq, nble, nblt, ofAV, ofAVs, lenL, bin_add, bin_sub, bin_mul, bin_eql, bin_neq, bin_lss, bin_leq, bin_gtr, bin_geq, natL_nat, natL_zero, natL_one, natL_two, Nat.zero_mul, List.any_cons, List.any_nil, Bool.or_false, Bool.false_or, Bool.true_or, Bool.or_true, Bool.and_true, Bool.true_and, Bool.and_false, Bool.false_and, Bool.not_true, Bool.not_false, Nat.reduceBEq, Nat.reduceEqDiff, decide_true, decide_false, cond_true, cond_false, List.filter_nil, List.filter_cons, Nat.reduceAdd, Nat.reduceLeDiff, reduceCtorEq, List.length_nil, List.length_cons, Nat.mul_one, if_true, if_false, Bool.false_eq_true, eq_self, and_true, true_and, retL, resultsL, resAllL, resOfL, List.append_nil, List.nil_append, List.cons_append, true_or, or_true, false_or, or_false, false_and, and_false, not_true_eq_false, not_false_eq_true, ne_eq, unL, trim_nil, views_pures, LV.pures, LV.pure, freeze, Nat.reduceDiv, Int.reduceEq, Int.reduceLT, Int.reduceLE, Int.natCast_zero, LV.cells, allocL, List.getElem?_cons_zero, List.getElem?_cons_succ, storeL, spliceL, List.take_zero, List.take_succ_cons, List.drop_zero, List.drop_succ_cons, List.drop_nil, List.take_nil, Nat.le_refl, Nat.reduceMul, List.set_cons_zero, List.set_cons_succ, LV.scalar, List.all_cons, List.all_nil, Nat.lt_add_one, Nat.zero_lt_one, Nat.reduceLT, Nat.lt_irrefl, fillL, List.length_append, foldIntL, kind_beq, pures_int, solids_int, plains_int, unders_int, scalars_int, show ¬ ((k : Int) < (l.length : Int)) by omega]
    simp [List.drop_eq_nil_of_le (show l.length ≤ k by omega), idxI]
  | succ n ih =>
    intro k hk
    have h2 : k < l.length := by omega
    rw [slices_Index_int_int.L0_eq, List.drop_eq_getElem_cons h2, idxI]
    have hn : ¬ ((k : Int) < 0) := by omega
    by_cases he : x = l[k]
    · simp only [slices_Index_int_int.B0, beqT, beqF, exF_seq, exF_region, exF_block, exF_cond, exF_ret, exF_exit, exF_skip, runL, wantL, stepL, evL, evC, LEnv.at, putL, loadFine, loadL, cellsAt, Trk.putNew, Trk.up, Trk.touch, Trk.gives, Trk.calm, Trk.hit, opdsOf, Trk.fresh, LEnv.keep, LEnv.ofFrom, List.map_cons, List.map_nil, nbeq, nble, nblt, ofAV, ofAVs, lenL, bin_add, bin_sub, bin_mul, bin_eql, bin_neq, bin_lss, bin_leq, bin_gtr, bin_geq, natL_nat, natL_zero, natL_one, natL_two, Nat.zero_mul, List.any_cons, List.any_nil, Bool.or_false, Bool.false_or, Bool.true_or, Bool.or_true, Bool.and_true, Bool.true_and, Bool.and_false, Bool.false_and, Bool.not_true, Bool.not_false, Nat.reduceBEq, Nat.reduceEqDiff, decide_true, decide_false, cond_true, cond_false, List.filter_nil, List.filter_cons, Nat.reduceAdd, Nat.reduceLeDiff, reduceCtorEq, List.length_nil, List.length_cons, Nat.mul_one, if_true, if_false, Bool.false_eq_true, eq_self, and_true, true_and, retL, resultsL, resAllL, resOfL, List.append_nil, List.nil_append, List.cons_append, true_or, or_true, false_or, or_false, false_and, and_false, not_true_eq_false, not_false_eq_true, ne_eq, unL, trim_nil, views_pures, LV.pures, LV.pure, freeze, Nat.reduceDiv, Int.reduceEq, Int.reduceLT, Int.reduceLE, Int.natCast_zero, LV.cells, allocL, List.getElem?_cons_zero, List.getElem?_cons_succ, storeL, spliceL, List.take_zero, List.take_succ_cons, List.drop_zero, List.drop_succ_cons, List.drop_nil, List.take_nil, Nat.le_refl, Nat.reduceMul, List.set_cons_zero, List.set_cons_succ, LV.scalar, List.all_cons, List.all_nil, Nat.lt_add_one, Nat.zero_lt_one, Nat.reduceLT, Nat.lt_irrefl, fillL, List.length_append, foldIntL, kind_beq, pures_int, solids_int, plains_int, unders_int, scalars_int, show ((k : Int) < (l.length : Int)) by omega, h2, intl_at _ _ h2, he, hn]
    · simp only [slices_Index_int_int.B0, beqT, beqF, exF_seq, exF_region, exF_block, exF_cond, exF_ret, exF_exit, exF_skip, runL, wantL, stepL, evL, evC, LEnv.at, putL, loadFine, loadL, cellsAt, Trk.putNew, Trk.up, Trk.touch, Trk.gives, Trk.calm, Trk.hit, opdsOf, Trk.fresh, LEnv.keep, LEnv.ofFrom, List.map_cons, List.map_nil, nbeq, nble, nblt, ofAV, ofAVs, lenL, bin_add, bin_sub, bin_mul, bin_eql, bin_neq, bin_lss, bin_leq, bin_gtr, bin_geq, natL_nat, natL_zero, natL_one, natL_two, Nat.zero_mul, List.any_cons, List.any_nil, Bool.or_false, Bool.false_or, Bool.true_or, Bool.or_true, Bool.and_true, Bool.true_and, Bool.and_false, Bool.false_and, Bool.not_true, Bool.not_false, Nat.reduceBEq, Nat.reduceEqDiff, decide_true, decide_false, cond_true, cond_false, List.filter_nil, List.filter_cons, Nat.reduceAdd, Nat.reduceLeDiff, reduceCtorEq, List.length_nil, List.length_cons, Nat.mul_one, if_true, if_false, Bool.false_eq_true, eq_self, and_true, true_and, retL, resultsL, resAllL, resOfL, List.append_nil, List.nil_append, List.cons_append, true_or, or_true, false_or, or_false, false_and, and_false, not_true_eq_false, not_false_eq_true, ne_eq, unL, trim_nil, views_pures, LV.pures, LV.pure, freeze, Nat.reduceDiv, Int.reduceEq, Int.reduceLT, Int.reduceLE, Int.natCast_zero, LV.cells, allocL, List.getElem?_cons_zero, List.getElem?_cons_succ, storeL, spliceL, List.take_zero, List.take_succ_cons, List.drop_zero, List.drop_succ_cons, List.drop_nil, List.take_nil, Nat.le_refl, Nat.reduceMul, List.set_cons_zero, List.set_cons_succ, LV.scalar, List.all_cons, List.all_nil, Nat.lt_add_one, Nat.zero_lt_one, Nat.reduceLT, Nat.lt_irrefl, fillL, List.length_append, foldIntL, kind_beq, pures_int, solids_int, plains_int, unders_int, scalars_int, show ((k : Int) < (l.length : Int)) by omega, h2, intl_at _ _ h2, he, wrap_succ (show k + 1 < 9223372036854775808 by omega), ih (k + 1) (by omega)]
theorem indexI_c (nl ex : Bool) (sz : Nat) (l : List Int) (x : Int) (hl : l.length < 1000000) (m : LMem) : clF LP n_slices_Index_int_int [IL nl ex sz l, .int .i64 x] m = some (.P, .int .i64 (idxI x l 0), m) := by
  refine call_P lp_slices_Index_int_int rfl (by simp [LV.pures, LV.pure]) (m1 := []) ?_ rfl m
  have h := index_loopI nl ex sz l x hl l.length 0 (by omega)
  simp only [Int.natCast_zero, List.drop_zero] at h
  by_cases hc : idxI x l 0 < 0
  · have : idxI x l 0 = -1 := by
      have : ∀ (l : List Int) (k : Nat), idxI x l k < 0 → idxI x l k = -1 := by
        intro l
        induction l with
        | nil => intro k _; rfl
        | cons a r ih => intro k h; rw [idxI] at h ⊢; split at h <;> rename_i c <;> simp only [c, if_true, if_false] at * <;> first | omega | exact ih _ h
      exact this l 0 hc
    simp only [slices_Index_int_int, slices_Index_int_int.B, beqT, beqF, exF_seq, exF_region, exF_block, exF_cond, exF_ret, exF_exit, exF_skip, runL, wantL, stepL, evL, evC, LEnv.at, putL, loadFine, loadL, cellsAt, Trk.putNew, Trk.up, Trk.touch, Trk.gives, Trk.calm, Trk.hit, opdsOf, Trk.fresh, LEnv.keep, LEnv.ofFrom, List.map_cons, List.map_nil, nbeq, nble, nblt, ofAV, ofAVs, lenL, bin_add, bin_sub, bin_mul, bin_eql, bin_neq, bin_lss, bin_leq, bin_gtr, bin_geq, natL_nat, natL_zero, natL_one, natL_two, Nat.zero_mul, List.any_cons, List.any_nil, Bool.or_false, Bool.false_or, Bool.true_or, Bool.or_true, Bool.and_true, Bool.true_and, Bool.and_false, Bool.false_and, Bool.not_true, Bool.not_false, Nat.reduceBEq, Nat.reduceEqDiff, decide_true, decide_false, cond_true, cond_false, List.filter_nil, List.filter_cons, Nat.reduceAdd, Nat.reduceLeDiff, reduceCtorEq, List.length_nil, List.length_cons, Nat.mul_one, if_true, if_false, Bool.false_eq_true, eq_self, and_true, true_and, retL, resultsL, resAllL, resOfL, List.append_nil, List.nil_append, List.cons_append, true_or, or_true, false_or, or_false, false_and, and_false, not_true_eq_false, not_false_eq_true, ne_eq, unL, trim_nil, views_pures, LV.pures, LV.pure, freeze, Nat.reduceDiv, Int.reduceEq, Int.reduceLT, Int.reduceLE, Int.natCast_zero, LV.cells, allocL, List.getElem?_cons_zero, List.getElem?_cons_succ, storeL, spliceL, List.take_zero, List.take_succ_cons, List.drop_zero, List.drop_succ_cons, List.drop_nil, List.take_nil, Nat.le_refl, Nat.reduceMul, List.set_cons_zero, List.set_cons_succ, LV.scalar, List.all_cons, List.all_nil, Nat.lt_add_one, Nat.zero_lt_one, Nat.reduceLT, Nat.lt_irrefl, fillL, List.length_append, foldIntL, kind_beq, pures_int, solids_int, plains_int, unders_int, scalars_int, h, hc]
    rw [this]
  · simp only [slices_Index_int_int, slices_Index_int_int.B, beqT, beqF, exF_seq, exF_region, exF_block, exF_cond, exF_ret, exF_exit, exF_skip, runL, wantL, stepL, evL, evC, LEnv.at, putL, loadFine, loadL, cellsAt, Trk.putNew, Trk.up, Trk.touch, Trk.gives, Trk.calm, Trk.hit, opdsOf, Trk.fresh, LEnv.keep, LEnv.ofFrom, List.map_cons, List.map_nil, nbeq, nble, nblt, ofAV, ofAVs, lenL, bin_add, bin_sub, bin_mul, bin_eql, bin_neq, bin_lss, bin_leq, bin_gtr, bin_geq, natL_nat, natL_zero, natL_one, natL_two, Nat.zero_mul, List.any_cons, List.any_nil, Bool.or_false, Bool.false_or, Bool.true_or, Bool.or_true, Bool.and_true, Bool.true_and, Bool.and_false, Bool.false_and, Bool.not_true, Bool.not_false, Nat.reduceBEq, Nat.reduceEqDiff, decide_true, decide_false, cond_true, cond_false, List.filter_nil, List.filter_cons, Nat.reduceAdd, Nat.reduceLeDiff, reduceCtorEq, List.length_nil, List.length_cons, Nat.mul_one, if_true, if_false, Bool.false_eq_true, eq_self, and_true, true_and, retL, resultsL, resAllL, resOfL, List.append_nil, List.nil_append, List.cons_append, true_or, or_true, false_or, or_false, false_and, and_false, not_true_eq_false, not_false_eq_true, ne_eq, unL, trim_nil, views_pures, LV.pures, LV.pure, freeze, Nat.reduceDiv, Int.reduceEq, Int.reduceLT, Int.reduceLE, Int.natCast_zero, LV.cells, allocL, List.getElem?_cons_zero, List.getElem?_cons_succ, storeL, spliceL, List.take_zero, List.take_succ_cons, List.drop_zero, List.drop_succ_cons, List.drop_nil, List.take_nil, Nat.le_refl, Nat.reduceMul, List.set_cons_zero, List.set_cons_succ, LV.scalar, List.all_cons, List.all_nil, Nat.lt_add_one, Nat.zero_lt_one, Nat.reduceLT, Nat.lt_irrefl, fillL, List.length_append, foldIntL, kind_beq, pures_int, solids_int, plains_int, unders_int, scalars_int, h, hc]
theorem containsI_c (nl ex : Bool) (sz : Nat) (l : List Int) (x : Int) (hl : l.length < 1000000) (m : LMem) : clF LP n_slices_Contains_int_int [IL nl ex sz l, .int .i64 x] m = some (.P, .bool (decide (x ∈ l)), m) := by
  refine call_P lp_slices_Contains_int_int rfl (by simp [LV.pures, LV.pure]) (m1 := []) ?_ rfl m
  have h := fun m => indexI_c nl ex sz l x hl m
  have h2 := idxI_mem x l 0
  simp only [slices_Contains_int_int, slices_Contains_int_int.B, beqT, beqF, exF_seq, exF_region, exF_block, exF_cond, exF_ret, exF_exit, exF_skip, runL, wantL, stepL, evL, evC, LEnv.at, putL, loadFine, loadL, cellsAt, Trk.putNew, Trk.up, Trk.touch, Trk.gives, Trk.calm, Trk.hit, opdsOf, Trk.fresh, LEnv.keep, LEnv.ofFrom, List.map_cons, List.map_nil, nbeq, nble, nblt, ofAV, ofAVs, lenL, bin_add, bin_sub, bin_mul, bin_eql, bin_neq, bin_lss, bin_leq, bin_gtr, bin_geq, natL_nat, natL_zero, natL_one, natL_two, Nat.zero_mul, List.any_cons, List.any_nil, Bool.or_false, Bool.false_or, Bool.true_or, Bool.or_true, Bool.and_true, Bool.true_and, Bool.and_false, Bool.false_and, Bool.not_true, Bool.not_false, Nat.reduceBEq, Nat.reduceEqDiff, decide_true, decide_false, cond_true, cond_false, List.filter_nil, List.filter_cons, Nat.reduceAdd, Nat.reduceLeDiff, reduceCtorEq, List.length_nil, List.length_cons, Nat.mul_one, if_true, if_false, Bool.false_eq_true, eq_self, and_true, true_and, retL, resultsL, resAllL, resOfL, List.append_nil, List.nil_append, List.cons_append, true_or, or_true, false_or, or_false, false_and, and_false, not_true_eq_false, not_false_eq_true, ne_eq, unL, trim_nil, views_pures, LV.pures, LV.pure, freeze, Nat.reduceDiv, Int.reduceEq, Int.reduceLT, Int.reduceLE, Int.natCast_zero, LV.cells, allocL, List.getElem?_cons_zero, List.getElem?_cons_succ, storeL, spliceL, List.take_zero, List.take_succ_cons, List.drop_zero, List.drop_succ_cons, List.drop_nil, List.take_nil, Nat.le_refl, Nat.reduceMul, List.set_cons_zero, List.set_cons_succ, LV.scalar, List.all_cons, List.all_nil, Nat.lt_add_one, Nat.zero_lt_one, Nat.reduceLT, Nat.lt_irrefl, fillL, List.length_append, foldIntL, kind_beq, pures_int, solids_int, plains_int, unders_int, scalars_int, h, h2]

/-! ### Reverse -/
def RVi (l : List Int) (i : Nat) : List Int := (List.range l.length).map fun k => if k < i ∨ l.length - i ≤ k then l.getD (l.length - 1 - k) 0 else l.getD k 0
theorem RVi_len (l : List Int) (i : Nat) : (RVi l i).length = l.length := by simp [RVi]
theorem RVi_at (l : List Int) (i k : Nat) (h : k < l.length) : (RVi l i)[k]'(by rw [RVi_len]; exact h) = if k < i ∨ l.length - i ≤ k then l.getD (l.length - 1 - k) 0 else l.getD k 0 := by simp [RVi]
theorem RVi_zero (l : List Int) : RVi l 0 = l := by
  apply List.ext_getElem (RVi_len _ _)
  intro k h1 h2
  rw [RVi_at _ _ _ h2, if_neg (by omega), List.getD_eq_getElem?_getD, List.getElem?_eq_getElem h2]; rfl
theorem RVi_end (l : List Int) (i : Nat) (h : l.length ≤ 2 * i + 1) : RVi l i = l.reverse := by
  apply List.ext_getElem (by rw [RVi_len, List.length_reverse])
  intro k h1 h2
  rw [List.length_reverse] at h2
  rw [RVi_at _ _ _ h2, List.getElem_reverse]
  have e : l.getD (l.length - 1 - k) 0 = l[l.length - 1 - k]'(by omega) := by rw [List.getD_eq_getElem?_getD, List.getElem?_eq_getElem (by omega)]; rfl
  by_cases c : k < i ∨ l.length - i ≤ k
  · rw [if_pos c, e]
  · rw [if_neg c]
    have : l.length - 1 - k = k := by omega
    rw [← e, this]
theorem RVi_step (l : List Int) (i : Nat) (h : 2 * i + 1 < l.length) : ((RVi l i).set i (l.getD (l.length - 1 - i) 0)).set (l.length - 1 - i) (l.getD i 0) = RVi l (i + 1) := by
  apply List.ext_getElem (by simp [RVi_len])
  intro k h1 h2
  rw [RVi_len] at h2
  rw [RVi_at _ _ _ h2, List.getElem_set, List.getElem_set, RVi_at _ _ _ h2]
  by_cases c1 : l.length - 1 - i = k
  · rw [if_pos c1, if_pos (by omega), ← c1]
    congr 1
    omega
  · rw [if_neg c1]
    by_cases c2 : i = k
    · rw [if_pos c2, if_pos (by omega), c2]
    · rw [if_neg c2]
      by_cases c3 : k < i ∨ l.length - i ≤ k
      · rw [if_pos c3, if_pos (by omega)]
      · rw [if_neg c3, if_neg (by omega)]
theorem rev_loop (l : List Int) (n : Nat) (hn : l.length = n) (h100 : n < 1000) (j : Nat) (d : Nat) : ∀ (i : Nat) (m : LMem), n ≤ 2 * i + d → 1 ≤ n → 2 * i ≤ n → m[j]? = some ⟨ints (RVi l i), true⟩ →
    ∃ m', exF LP slices_Reverse_int_int.L0 [(0, .sl j 0 n n 1 1 n), (2, .int .i64 (i : Int)), (3, .int .i64 ((n : Int) - 1 - (i : Int)))] m = some (.exit 0, [], m') ∧ m'[j]? = some ⟨ints l.reverse, true⟩ ∧ (∀ k, k ≠ j → m'[k]? = m[k]?) ∧ m'.length = m.length := by
  induction d with
  | zero =>
    intro i m hd h1 h2 hm
    refine ⟨m, ?_, ?_, fun _ _ => rfl, rfl⟩
    · rw [slices_Reverse_int_int.L0_eq]
      simp only [slices_Reverse_int_int.B0, beqT, beqF, exF_seq, exF_region, exF_block, exF_cond, exF_ret, exF_exit, exF_skip, runL, wantL, stepL, evL, evC, LEnv.at, putL, loadFine, loadL, cellsAt, Trk.putNew, Trk.up, Trk.touch, Trk.gives, Trk.calm, Trk.hit, opdsOf, Trk.fresh, LEnv.keep, LEnv.ofFrom, List.map_cons, List.map_nil, nbeq, nble, nblt, ofAV, ofAVs, lenL, bin_add, bin_sub, bin_mul, bin_eql, bin_neq, bin_lss, bin_leq, bin_gtr, bin_geq, natL_nat, natL_zero, natL_one, natL_two, Nat.zero_mul, List.any_cons, List.any_nil, Bool.or_false, Bool.false_or, Bool.true_or, Bool.or_true, Bool.and_true, Bool.true_and, Bool.and_false, Bool.false_and, Bool.not_true, Bool.not_false, Nat.reduceBEq, Nat.reduceEqDiff, decide_true, decide_false, cond_true, cond_false, List.filter_nil, List.filter_cons, Nat.reduceAdd, Nat.reduceLeDiff, reduceCtorEq, List.length_nil, List.length_cons, Nat.mul_one, if_true, if_false, Bool.false_eq_true, eq_self, and_true, true_and, retL, resultsL, resAllL, resOfL, List.append_nil, List.nil_append, List.cons_append, true_or, or_true, false_or, or_false, false_and, and_false, not_true_eq_false, not_false_eq_true, ne_eq, unL, trim_nil, views_pures, LV.pures, LV.pure, freeze, Nat.reduceDiv, Int.reduceEq, Int.reduceLT, Int.reduceLE, Int.natCast_zero, LV.cells, allocL, List.getElem?_cons_zero, List.getElem?_cons_succ, storeL, spliceL, List.take_zero, List.take_succ_cons, List.drop_zero, List.drop_succ_cons, List.drop_nil, List.take_nil, Nat.le_refl, Nat.reduceMul, List.set_cons_zero, List.set_cons_succ, LV.scalar, List.all_cons, List.all_nil, Nat.lt_add_one, Nat.zero_lt_one, Nat.reduceLT, Nat.lt_irrefl, fillL, List.length_append, foldIntL, kind_beq, pures_int, solids_int, plains_int, unders_int, scalars_int, show ¬ ((i : Int) < (n : Int) - 1 - (i : Int)) by omega]
    · rw [hm, RVi_end l i (by omega)]
  | succ d ih =>
    intro i m hd h1 h2 hm
    by_cases c : 2 * i + 1 < n
    · have hlt : ((i : Int) < (n : Int) - 1 - (i : Int)) := by omega
      have eJ : (n : Int) - 1 - (i : Int) = ((n - 1 - i : Nat) : Int) := by omega
      have hw2 : IntKind.i64.wrap (((n - 1 - i : Nat) : Int) - 1) = (n : Int) - 1 - ((i + 1 : Nat) : Int) := by rw [wrap_in (by omega)]; omega
      have hj : j < m.length := (List.getElem?_eq_some_iff.1 hm).1
      have hj2 : ¬ m.length ≤ j := by omega
      have hR := RVi_len l i
      have a1 : (ints (RVi l i))[n - 1 - i]? = some (.int .i64 (l.getD (n - 1 - i) 0)) := by
        rw [intl_at _ _ (by rw [hR]; omega), RVi_at _ _ _ (by omega), if_neg (by omega)]
      have a2 : (ints (RVi l i))[i]? = some (.int .i64 (l.getD i 0)) := by
        rw [intl_at _ _ (by rw [hR]; omega), RVi_at _ _ _ (by omega), if_neg (by omega)]
      have hil : (ints (RVi l i)).length = n := by simp [hR, hn]
      have hb1 : i < (RVi l i).length := by rw [hR]; omega
      have hi : i < n := by omega
      have hq : n - 1 - i < n := by omega
      have s1 := set_int .i64 (RVi l i) i (l.getD (n - 1 - i) 0) hb1
      have hb2 : n - 1 - i < ((RVi l i).set i (l.getD (n - 1 - i) 0)).length := by rw [List.length_set, hR]; omega
      have s2 := set_int .i64 ((RVi l i).set i (l.getD (n - 1 - i) 0)) (n - 1 - i) (l.getD i 0) hb2
      have st := RVi_step l i (by omega)
      rw [hn] at st
      rw [st] at s2
      have hil2 : (ints ((RVi l i).set i (l.getD (n - 1 - i) 0))).length = n := by simp [hR, hn]
      obtain ⟨M2, hM2⟩ : ∃ M, M = m.set j ⟨ints ((RVi l i).set i (l.getD (n - 1 - i) 0)), true⟩ := ⟨_, rfl⟩
      have g2 : M2[j]? = some ⟨ints ((RVi l i).set i (l.getD (n - 1 - i) 0)), true⟩ := by rw [hM2, List.getElem?_set_self hj]
      obtain ⟨M3, hM3⟩ : ∃ M, M = M2.set j ⟨ints (RVi l (i + 1)), true⟩ := ⟨_, rfl⟩
      have g3 : M3[j]? = some ⟨ints (RVi l (i + 1)), true⟩ := by rw [hM3, List.getElem?_set_self (by rw [hM2, List.length_set]; exact hj)]
      obtain ⟨m', k1, k2, k3, k4⟩ := ih (i + 1) M3 (by omega) h1 (by omega) g3
      refine ⟨m', ?_, k2, fun k hk => ?_, ?_⟩
      · rw [slices_Reverse_int_int.L0_eq, ← k1, eJ]
        rw [eJ] at hlt
        generalize n - 1 - i = q at *
        generalize l.getD q 0 = x at *
        generalize l.getD i 0 = y at *
        generalize RVi l (i + 1) = L3 at *
        generalize hL2 : (RVi l i).set i x = L2 at *
        generalize RVi l i = L1 at *
        have hi1 : i + 1 ≤ n := hi
        have hq1 : q + 1 ≤ n := hq
        simp only [slices_Reverse_int_int.B0, beqT, beqF, exF_seq, exF_region, exF_block, exF_cond, exF_ret, exF_exit, exF_skip, runL, wantL, stepL, evL, evC, LEnv.at, putL, loadFine, loadL, cellsAt, Trk.putNew, Trk.up, Trk.touch, Trk.gives, Trk.calm, Trk.hit, opdsOf, Trk.fresh, LEnv.keep, LEnv.ofFrom, List.map_cons, List.map_nil, nbeq, nble, nblt, ofAV, ofAVs, lenL, bin_add, bin_sub, bin_mul, bin_eql, bin_neq, bin_lss, bin_leq, bin_gtr, bin_geq, natL_nat, natL_zero, natL_one, natL_two, Nat.zero_mul, List.any_cons, List.any_nil, Bool.or_false, Bool.false_or, Bool.true_or, Bool.or_true, Bool.and_true, Bool.true_and, Bool.and_false, Bool.false_and, Bool.not_true, Bool.not_false, Nat.reduceBEq, Nat.reduceEqDiff, decide_true, decide_false, cond_true, cond_false, List.filter_nil, List.filter_cons, Nat.reduceAdd, Nat.reduceLeDiff, reduceCtorEq, List.length_nil, List.length_cons, Nat.mul_one, if_true, if_false, Bool.false_eq_true, eq_self, and_true, true_and, retL, resultsL, resAllL, resOfL, List.append_nil, List.nil_append, List.cons_append, true_or, or_true, false_or, or_false, false_and, and_false, not_true_eq_false, not_false_eq_true, ne_eq, unL, trim_nil, views_pures, LV.pures, LV.pure, freeze, Nat.reduceDiv, Int.reduceEq, Int.reduceLT, Int.reduceLE, Int.natCast_zero, LV.cells, allocL, List.getElem?_cons_zero, List.getElem?_cons_succ, storeL, spliceL, List.take_zero, List.take_succ_cons, List.drop_zero, List.drop_succ_cons, List.drop_nil, List.take_nil, Nat.le_refl, Nat.reduceMul, List.set_cons_zero, List.set_cons_succ, LV.scalar, List.all_cons, List.all_nil, Nat.lt_add_one, Nat.zero_lt_one, Nat.reduceLT, Nat.lt_irrefl, fillL, List.length_append, foldIntL, kind_beq, pures_int, solids_int, plains_int, unders_int, scalars_int, hlt, hj2, hm, hil, hi, hq, hi1, hq1, Nat.zero_add, a1, a2, s1, ← hM2, g2, hil2, s2, ← hM3, hw2, wrap_succ (show i + 1 < 9223372036854775808 by omega)]
      · rw [k3 k hk, hM3, List.getElem?_set_ne (Ne.symm hk), hM2, List.getElem?_set_ne (Ne.symm hk)]
      · rw [k4, hM3, List.length_set, hM2, List.length_set]
    · refine ⟨m, ?_, ?_, fun _ _ => rfl, rfl⟩
      · rw [slices_Reverse_int_int.L0_eq]
        simp only [slices_Reverse_int_int.B0, beqT, beqF, exF_seq, exF_region, exF_block, exF_cond, exF_ret, exF_exit, exF_skip, runL, wantL, stepL, evL, evC, LEnv.at, putL, loadFine, loadL, cellsAt, Trk.putNew, Trk.up, Trk.touch, Trk.gives, Trk.calm, Trk.hit, opdsOf, Trk.fresh, LEnv.keep, LEnv.ofFrom, List.map_cons, List.map_nil, nbeq, nble, nblt, ofAV, ofAVs, lenL, bin_add, bin_sub, bin_mul, bin_eql, bin_neq, bin_lss, bin_leq, bin_gtr, bin_geq, natL_nat, natL_zero, natL_one, natL_two, Nat.zero_mul, List.any_cons, List.any_nil, Bool.or_false, Bool.false_or, Bool.true_or, Bool.or_true, Bool.and_true, Bool.true_and, Bool.and_false, Bool.false_and, Bool.not_true, Bool.not_false, Nat.reduceBEq, Nat.reduceEqDiff, decide_true, decide_false, cond_true, cond_false, List.filter_nil, List.filter_cons, Nat.reduceAdd, Nat.reduceLeDiff, reduceCtorEq, List.length_nil, List.length_cons, Nat.mul_one, if_true, if_false, Bool.false_eq_true, eq_self, and_true, true_and, retL, resultsL, resAllL, resOfL, List.append_nil, List.nil_append, List.cons_append, true_or, or_true, false_or, or_false, false_and, and_false, not_true_eq_false, not_false_eq_true, ne_eq, unL, trim_nil, views_pures, LV.pures, LV.pure, freeze, Nat.reduceDiv, Int.reduceEq, Int.reduceLT, Int.reduceLE, Int.natCast_zero, LV.cells, allocL, List.getElem?_cons_zero, List.getElem?_cons_succ, storeL, spliceL, List.take_zero, List.take_succ_cons, List.drop_zero, List.drop_succ_cons, List.drop_nil, List.take_nil, Nat.le_refl, Nat.reduceMul, List.set_cons_zero, List.set_cons_succ, LV.scalar, List.all_cons, List.all_nil, Nat.lt_add_one, Nat.zero_lt_one, Nat.reduceLT, Nat.lt_irrefl, fillL, List.length_append, foldIntL, kind_beq, pures_int, solids_int, plains_int, unders_int, scalars_int, show ¬ ((i : Int) < (n : Int) - 1 - (i : Int)) by omega]
      · rw [hm, RVi_end l i (by omega)]
theorem rev_w (l : List Int) (n : Nat) (hn : l.length = n) (h100 : n < 1000) (h1 : 1 ≤ n) (j : Nat) (m : LMem) (hm : m[j]? = some ⟨ints l, true⟩) : ∃ m', clF LP n_slices_Reverse_int_int [.sl j 0 n n 1 1 n] m = some (.W, .tup [], m') ∧ m'[j]? = some ⟨ints l.reverse, true⟩ ∧ (∀ k, k ≠ j → m'[k]? = m[k]?) ∧ m'.length = m.length := by
  obtain ⟨m', k1, k2, k3, k4⟩ := rev_loop l n hn h100 j n 0 m (by omega) h1 (by omega) (by rw [RVi_zero]; exact hm)
  refine ⟨m', ?_, k2, k3, k4⟩
  rw [Int.natCast_zero, show (n : Int) - 1 - 0 = (n : Int) - 1 by omega] at k1
  have hw : IntKind.i64.wrap ((n : Int) - 1) = (n : Int) - 1 := wrap_in (by omega)
  have h := call_W (v := .tup []) (m1 := m') lp_slices_Reverse_int_int rfl (args := [.sl j 0 n n 1 1 n]) (m := m) (by simp only [slices_Reverse_int_int, slices_Reverse_int_int.B, beqT, beqF, exF_seq, exF_region, exF_block, exF_cond, exF_ret, exF_exit, exF_skip, runL, wantL, stepL, evL, evC, LEnv.at, putL, loadFine, loadL, cellsAt, Trk.putNew, Trk.up, Trk.touch, Trk.gives, Trk.calm, Trk.hit, opdsOf, Trk.fresh, LEnv.keep, LEnv.ofFrom, List.map_cons, List.map_nil, nbeq, nble, nblt, ofAV, ofAVs, lenL, bin_add, bin_sub, bin_mul, bin_eql, bin_neq, bin_lss, bin_leq, bin_gtr, bin_geq, natL_nat, natL_zero, natL_one, natL_two, Nat.zero_mul, List.any_cons, List.any_nil, Bool.or_false, Bool.false_or, Bool.true_or, Bool.or_true, Bool.and_true, Bool.true_and, Bool.and_false, Bool.false_and, Bool.not_true, Bool.not_false, Nat.reduceBEq, Nat.reduceEqDiff, decide_true, decide_false, cond_true, cond_false, List.filter_nil, List.filter_cons, Nat.reduceAdd, Nat.reduceLeDiff, reduceCtorEq, List.length_nil, List.length_cons, Nat.mul_one, if_true, if_false, Bool.false_eq_true, eq_self, and_true, true_and, retL, resultsL, resAllL, resOfL, List.append_nil, List.nil_append, List.cons_append, true_or, or_true, false_or, or_false, false_and, and_false, not_true_eq_false, not_false_eq_true, ne_eq, unL, trim_nil, views_pures, LV.pures, LV.pure, freeze, Nat.reduceDiv, Int.reduceEq, Int.reduceLT, Int.reduceLE, Int.natCast_zero, LV.cells, allocL, List.getElem?_cons_zero, List.getElem?_cons_succ, storeL, spliceL, List.take_zero, List.take_succ_cons, List.drop_zero, List.drop_succ_cons, List.drop_nil, List.take_nil, Nat.le_refl, Nat.reduceMul, List.set_cons_zero, List.set_cons_succ, LV.scalar, List.all_cons, List.all_nil, Nat.lt_add_one, Nat.zero_lt_one, Nat.reduceLT, Nat.lt_irrefl, fillL, List.length_append, foldIntL, kind_beq, pures_int, solids_int, plains_int, unders_int, scalars_int, hw, k1])
  rw [h, trim_le _ _ _ (by omega)]
end Go.Am.Post


