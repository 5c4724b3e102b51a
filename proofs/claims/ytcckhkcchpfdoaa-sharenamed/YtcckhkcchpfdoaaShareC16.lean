import Derived.Test.YtcckhkcchpfdoaaShareC14
import Derived.Test.YtcckhkcchpfdoaaShareC6
set_option linter.unusedVariables false
set_option linter.unusedSimpArgs false
set_option maxRecDepth 10000
namespace Go.Am
namespace Share
structure VOk (rs : List Row) (L : Nat) : Prop where
  pos : 0 < rs.length
  le4 : rs.length ≤ 4
  len : ∀ i (h : i < rs.length),rs[i].l.length = L
  ok : ∀ i (h : i < rs.length),Ok20 rs[i].l
  le6 : L ≤ 6
theorem vok_of {rs : List Row} (h : chkV (vals rs) = 0) : VOk rs ((vals rs).getD 0 []).length := by
  obtain ⟨k1,k2,k3,k4⟩ := chkV_ok h
  rw [vals_length] at k1 k2
  have hrow : ∀ i (h : i < rs.length),rs[i].l ∈ vals rs := fun i h => List.mem_map.2 ⟨rs[i],List.getElem_mem h,rfl⟩
  exact ⟨k1,k2,fun i hi => (k4 _ (hrow i hi)).1,fun i hi => (k4 _ (hrow i hi)).2,by omega⟩
end Share
end Go.Am
set_option linter.unusedVariables false
set_option linter.unusedSimpArgs false
namespace Go.Am.Share
def fstI (P : Nat → Bool) : Nat → Nat → Int
  | 0,_ => -1
  | n + 1,k => if P k then (k : Int) else fstI P n (k + 1)
theorem fstI_cases (P : Nat → Bool) : ∀ (n k : Nat),(fstI P n k = -1 ∧ ∀ i,k ≤ i → i < k + n → P i = false) ∨ (∃ i : Nat,fstI P n k = (i : Int) ∧ k ≤ i ∧ i < k + n ∧ P i = true)
  | 0,k => .inl ⟨rfl,fun i h1 h2 => by omega⟩
  | n + 1,k => by
    rw [fstI]
    by_cases h : P k = true
    · rw [if_pos h]
      exact .inr ⟨k,rfl,by omega,by omega,h⟩
    · rw [if_neg h]
      rcases fstI_cases P n (k + 1) with ⟨a,b⟩ | ⟨i,a,b,c,d⟩
      · refine .inl ⟨a,fun i h1 h2 => ?_⟩
        by_cases hik : i = k
        · subst hik; simpa using h
        · exact b i (by omega) (by omega)
      · exact .inr ⟨i,a,by omega,by omega,d⟩
def enI (V : List (List Int)) (o : List Int) (j : Nat) : Int := fstI (fun i => decide (0 < eW V o i j)) V.length 0
structure WOk (e : Int → Int) (N : Nat) (l : List Int) (w : Int) : Prop where
  nd : l.Nodup
  rng : ∀ x ∈ l,0 ≤ x ∧ x < (N : Int)
  w0 : 0 ≤ w ∧ w < (N : Int)
  chain : ∀ i,i + 1 < l.length → l.getD (i + 1) 0 = e (l.getD i 0)
  last : l ≠ [] → w = e (l.getD (l.length - 1) 0)
theorem WOk.step {e : Int → Int} {N : Nat} (he : ∀ x,0 ≤ x → x < (N : Int) → 0 ≤ e x ∧ e x < (N : Int)) {l : List Int} {w : Int} (H : WOk e N l w) (hw : ¬ w ∈ l) : WOk e N (l ++ [w]) (e w) := by
  refine ⟨?_,?_,he w H.w0.1 H.w0.2,?_,?_⟩
  · rw [List.nodup_append]
    refine ⟨H.nd,by simp,?_⟩
    intro a ha b hb
    simp at hb
    subst hb
    intro c; subst c; exact hw ha
  · intro x hx
    rcases List.mem_append.1 hx with c | c
    · exact H.rng x c
    · simp at c; subst c; exact H.w0
  · intro i hi
    simp only [List.length_append,List.length_cons,List.length_nil] at hi
    by_cases h2 : i + 1 < l.length
    · have := H.chain i h2
      simp only [List.getD_eq_getElem?_getD] at this ⊢
      rw [List.getElem?_append_left h2,List.getElem?_append_left (by omega)]
      exact this
    · have h3 : i + 1 = l.length := by omega
      have hne : l ≠ [] := by intro c; subst c; simp at h3
      have := H.last hne
      simp only [List.getD_eq_getElem?_getD] at this ⊢
      rw [List.getElem?_append_left (show i < l.length by omega),List.getElem?_append_right (by omega),h3]
      simp only [Nat.sub_self,List.getElem?_cons_zero,Option.getD_some]
      rw [this]
      rw [show l.length - 1 = i by omega]
  · intro _
    simp [List.getD_eq_getElem?_getD]
structure ROk (e : Int → Int) (N : Nat) (l : List Int) : Prop where
  ne : l ≠ []
  nd : l.Nodup
  rng : ∀ x ∈ l,0 ≤ x ∧ x < (N : Int)
  nxt : ∀ i,i < l.length → l.getD ((i + 1) % l.length) 0 = e (l.getD i 0)
def sumN (f : Nat → Int) : Nat → Int
  | 0 => 0
  | n + 1 => sumN f n + f n
def ownS (V : List (List Int)) (o : List Int) : Int := sumN (fun i => ws (i : Int) (V.getD i []) o 0) V.length
theorem ownS_le {V : List (List Int)} {o : List Int} (h20 : ∀ i,i < V.length → Ok20 (V.getD i [])) (hl : ∀ i,i < V.length → (V.getD i []).length ≤ 6) (h4 : V.length ≤ 4) : 0 ≤ ownS V o ∧ ownS V o ≤ 480 := by
  have hb : ∀ i,i < V.length → 0 ≤ ws (i : Int) (V.getD i []) o 0 ∧ ws (i : Int) (V.getD i []) o 0 ≤ 120 := fun i hi => by
    have := ws_bound (i : Int) (V.getD i []) o 0 (h20 i hi) (by omega)
    have := hl i hi
    omega
  have : ∀ n,n ≤ V.length → 0 ≤ sumN (fun i => ws (i : Int) (V.getD i []) o 0) n ∧ sumN (fun i => ws (i : Int) (V.getD i []) o 0) n ≤ 120 * n := by
    intro n
    induction n with
    | zero => intro _; simp [sumN]
    | succ n ih =>
      intro hn
      have := ih (by omega)
      have := hb n (by omega)
      simp only [sumN]; omega
  have := this V.length (by omega)
  unfold ownS
  omega
end Go.Am.Share
