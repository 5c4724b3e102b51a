import Derived.Test.YtheppipmnfjdcaaDoorRdC11
import Derived.Test.YtheppipmnfjdcaaDoorRdL
import Derived.Test.YtheppipmnfjdcaaDoorLm13
import Derived.Test.YtheppipmnfjdcaaDoorLm14
import Derived.KernelRfl
set_option linter.unusedVariables false
set_option linter.unusedSimpArgs false
set_option maxRecDepth 10000
namespace Go.Am.Ring
open Go.Am.G
end Go.Am.Ring
set_option linter.unusedVariables false
set_option linter.unusedSimpArgs false
set_option maxRecDepth 10000
namespace Go.Am.Ring
open Go.Am.G
def st (P : List (Nat × Nat)) (i : Nat) : Nat := (P.getD i (0,0)).1
def en (P : List (Nat × Nat)) (i : Nat) : Nat := (P.getD i (0,0)).2
theorem getD_at {α : Type} (P : List α) (i : Nat) (d : α) (h : i < P.length) : P.getD i d = P[i] := by
  rw [List.getD_eq_getElem?_getD,List.getElem?_eq_getElem h]; rfl
theorem pcS (P : List (Nat × Nat)) (i : Nat) (h : i < P.length) : (pcI (P.map castP))[i * 2]? = some (.int .i64 ((st P i : Nat) : Int)) := by
  rw [pcN_0 P i h,st,getD_at P i _ h]
theorem pcE (P : List (Nat × Nat)) (i : Nat) (h : i < P.length) : (pcI (P.map castP))[i * 2 + 1]? = some (.int .i64 ((en P i : Nat) : Int)) := by
  rw [pcN_1 P i h,en,getD_at P i _ h]
theorem pcSE (P : List (Nat × Nat)) (i : Nat) (h : i < P.length) : ((pcI (P.map castP)).drop (i * 2)).take 2 = [.int .i64 ((st P i : Nat) : Int),.int .i64 ((en P i : Nat) : Int)] := by
  rw [pcN_seg P i h,st,en,getD_at P i _ h]
def freshB (P : List (Nat × Nat)) (b : List Nat) (i : Nat) : Bool := b.all fun k => !decide (st P k = st P i)
def ringsU (P : List (Nat × Nat)) : Nat → List Nat → List (List Nat)
  | 0,_ => []
  | u + 1,b => if en P (b.getLastD 0) = st P (b.headD 0) then [b] else
      (List.range' (b.headD 0 + 1) (P.length - (b.headD 0 + 1))).flatMap fun i => if st P i = en P (b.getLastD 0) ∧ freshB P b i = true then ringsU P u (b ++ [i]) else []
theorem ringsU_len (P : List (Nat × Nat)) (hP : P.length ≤ 12) : ∀ (u : Nat) (b : List Nat),(ringsU P u b).length ≤ 12 ^ u
  | 0,b => by simp [ringsU]
  | u + 1,b => by
    rw [ringsU]
    split
    · simp
      exact Nat.succ_le_of_lt (Nat.pow_pos (by omega))
    · rw [List.length_flatMap]
      have : ∀ l : List Nat,(l.map fun i => (if st P i = en P (b.getLastD 0) ∧ freshB P b i = true then ringsU P u (b ++ [i]) else []).length).sum ≤ l.length * 12 ^ u := by
        intro l
        induction l with
        | nil => simp
        | cons i l ih =>
          rw [List.map_cons,List.sum_cons,List.length_cons,Nat.add_mul,Nat.one_mul]
          have : (if st P i = en P (b.getLastD 0) ∧ freshB P b i = true then ringsU P u (b ++ [i]) else []).length ≤ 12 ^ u := by
            split
            · exact ringsU_len P hP u _
            · simp
          omega
      have h := this (List.range' (b.headD 0 + 1) (P.length - (b.headD 0 + 1)))
      rw [List.length_range'] at h
      refine Nat.le_trans h ?_
      rw [Nat.pow_succ,Nat.mul_comm]
      exact Nat.mul_le_mul_left _ (by omega)
end Go.Am.Ring
set_option linter.unusedVariables false
set_option linter.unusedSimpArgs false
set_option maxRecDepth 10000
namespace Go.Am.Ring
open Go.Am.G
theorem nodup_le : ∀ (s t : List Nat),s.Nodup → (∀ x ∈ s,x ∈ t) → s.length ≤ t.length
  | [],t,_,_ => by simp
  | a :: s,t,hs,ht => by
    have hs := List.nodup_cons.1 hs
    have := nodup_le s (t.erase a) hs.2 (fun x hx => by
      have hxa : x ≠ a := fun e => hs.1 (e ▸ hx)
      exact (List.mem_erase_of_ne hxa).2 (ht x (by simp [hx])))
    have ha := ht a (by simp)
    rw [List.length_erase_of_mem ha] at this
    have hp := List.length_pos_of_mem ha
    simp; omega
structure Beg (n : Nat) (P : List (Nat × Nat)) (b : List Nat) : Prop where
  ne : b ≠ []
  lt : ∀ k ∈ b,k < P.length
  nd : (b.map (st P)).Nodup
theorem st_lt {n : Nat} {P : List (Nat × Nat)} (G : Good n P) {k : Nat} (h : k < P.length) : st P k < n ∧ en P k < n ∧ st P k ≠ en P k := by
  unfold st en
  rw [getD_at P k _ h]
  exact ⟨(G.lt _ (List.getElem_mem h)).1,(G.lt _ (List.getElem_mem h)).2,G.ne _ (List.getElem_mem h)⟩
theorem Beg.len {n : Nat} {P : List (Nat × Nat)} (G : Good n P) {b : List Nat} (B : Beg n P b) : b.length ≤ 6 := by
  have := nodup_le (b.map (st P)) (List.range n) B.nd (fun x hx => by
    obtain ⟨k,hk,rfl⟩ := List.mem_map.1 hx
    exact List.mem_range.2 (st_lt G (B.lt k hk)).1)
  simp at this
  have := G.le6
  omega
theorem Beg.snoc {n : Nat} {P : List (Nat × Nat)} {b : List Nat} (B : Beg n P b) {i : Nat} (hi : i < P.length) (hf : freshB P b i = true) : Beg n P (b ++ [i]) := by
  refine ⟨by simp,?_,?_⟩
  · intro k hk
    rcases List.mem_append.1 hk with h | h
    · exact B.lt k h
    · rw [List.mem_singleton.1 h]; exact hi
  · rw [List.map_append,List.nodup_append]
    refine ⟨B.nd,by simp,?_⟩
    intro x hx y hy
    simp at hy
    subst hy
    obtain ⟨k,hk,rfl⟩ := List.mem_map.1 hx
    unfold freshB at hf
    rw [List.all_eq_true] at hf
    simpa using hf k hk
theorem head_at (b : List Nat) (h : 0 < b.length) : b[0] = b.headD 0 := by
  cases b with
  | nil => simp at h
  | cons a t => rfl
theorem last_el (b : List Nat) (h : b.length - 1 < b.length) : b[b.length - 1] = b.getLastD 0 := by
  rw [List.getLastD_eq_getLast?,List.getLast?_eq_getElem?,List.getElem?_eq_getElem h]; rfl
def allR (P : List (Nat × Nat)) : List (List Nat) := (List.range P.length).flatMap fun i => ringsU P 6 [i]
theorem allR_len {n : Nat} {P : List (Nat × Nat)} (G : Good n P) : (allR P).length ≤ 12 * 2985984 := by
  have h12 := G.le12
  unfold allR
  have : ∀ l : List Nat,(l.flatMap fun i => ringsU P 6 [i]).length ≤ l.length * 2985984 := by
    intro l
    induction l with
    | nil => simp
    | cons i l ih =>
      have := ringsU_len P h12 6 [i]
      have h6 : (12 : Nat) ^ 6 = 2985984 := by decide
      rw [h6] at this
      rw [List.flatMap_cons,List.length_append,List.length_cons]
      omega
  have h := this (List.range P.length)
  rw [List.length_range] at h
  exact Nat.le_trans h (Nat.mul_le_mul_right _ h12)
end Go.Am.Ring
set_option linter.unusedVariables false
set_option linter.unusedSimpArgs false
namespace Go.Am.Ring
def Chain (P : List (Nat × Nat)) : List Nat → Prop
  | [] => True
  | [_] => True
  | a :: b :: r => en P a = st P b ∧ Chain P (b :: r)
theorem chain_append {P : List (Nat × Nat)} : ∀ (a b : List Nat),Chain P (a ++ b) ↔ Chain P a ∧ Chain P b ∧ (a ≠ [] → b ≠ [] → en P (a.getLastD 0) = st P (b.headD 0))
  | [],b => by simp [Chain]
  | [x],[] => by simp [Chain]
  | [x],y :: b => by
    constructor
    · intro h; exact ⟨trivial,h.2,fun _ _ => h.1⟩
    · intro h; exact ⟨h.2.2 (by simp) (by simp),h.2.1⟩
  | x :: y :: a,b => by
    have ih := chain_append (P := P) (y :: a) b
    have e : Chain P (x :: y :: a ++ b) ↔ en P x = st P y ∧ Chain P (y :: a ++ b) := Iff.rfl
    have e2 : Chain P (x :: y :: a) ↔ en P x = st P y ∧ Chain P (y :: a) := Iff.rfl
    have e3 : (x :: y :: a).getLastD 0 = (y :: a).getLastD 0 := by simp [List.getLastD]
    rw [e,e2,ih,e3]
    constructor
    · rintro ⟨h1,h2,h3,h4⟩; exact ⟨⟨h1,h2⟩,h3,fun _ hb => h4 (by simp) hb⟩
    · rintro ⟨⟨h1,h2⟩,h3,h4⟩; exact ⟨h1,h2,h3,fun _ hb => h4 (by simp) hb⟩
structure Cyc (P : List (Nat × Nat)) (b : List Nat) : Prop where
  ne : b ≠ []
  lt : ∀ k ∈ b,k < P.length
  nd : (b.map (st P)).Nodup
  ch : Chain P b
  cl : en P (b.getLastD 0) = st P (b.headD 0)
theorem headD_app (b r : List Nat) (h : b ≠ []) : (b ++ r).headD 0 = b.headD 0 := by
  cases b with
  | nil => exact absurd rfl h
  | cons a t => rfl
theorem lastD_app (b r : List Nat) (h : r ≠ []) : (b ++ r).getLastD 0 = r.getLastD 0 := by
  rw [List.getLastD_eq_getLast?,List.getLastD_eq_getLast?,List.getLast?_append]
  cases hr : r.getLast? with
  | none => exact absurd (List.getLast?_eq_none_iff.1 hr) h
  | some x => rfl
theorem ringsU_mem {n : Nat} {P : List (Nat × Nat)} (G : Good n P) : ∀ (r b : List Nat) (u : Nat),Beg n P b → b.length + u = 7 → Cyc P (b ++ r) → (∀ k ∈ r,b.headD 0 < k) → b ++ r ∈ ringsU P u b
  | r,b,0,B,hu,_,_ => by have := B.len G; omega
  | [],b,u + 1,B,hu,C,_ => by
    rw [List.append_nil] at C ⊢
    rw [ringsU,if_pos C.cl]; simp
  | i :: r,b,u + 1,B,hu,C,hm => by
    have hch := (chain_append b (i :: r)).1 C.ch
    have hlast : en P (b.getLastD 0) = st P i := hch.2.2 B.ne (by simp)
    have hnd := C.nd
    rw [List.map_append,List.nodup_append] at hnd
    have hne : ∀ k ∈ b,st P k ≠ st P i := fun k hk => hnd.2.2 _ (List.mem_map.2 ⟨k,hk,rfl⟩) _ (List.mem_map.2 ⟨i,by simp,rfl⟩)
    have hil : i < P.length := C.lt i (by simp)
    have hnc : ¬ en P (b.getLastD 0) = st P (b.headD 0) := by
      intro c
      rw [hlast] at c
      refine hne (b.headD 0) ?_ c.symm
      cases hb : b with
      | nil => exact absurd hb B.ne
      | cons a t => simp
    have hfr : freshB P b i = true := by
      unfold freshB
      rw [List.all_eq_true]
      intro k hk
      simp [hne k hk]
    have hih := hm i (by simp)
    rw [ringsU,if_neg hnc,List.mem_flatMap]
    refine ⟨i,List.mem_range'_1.2 ⟨by omega,by omega⟩,?_⟩
    rw [if_pos ⟨hlast.symm,hfr⟩]
    have := ringsU_mem G r (b ++ [i]) u (B.snoc hil hfr) (by simp; omega) (by rw [List.append_assoc]; exact C) (fun k hk => by
      rw [headD_app b [i] B.ne]
      exact hm k (by simp [hk]))
    rw [List.append_assoc] at this
    exact this
theorem ringsU_cyc {n : Nat} {P : List (Nat × Nat)} (G : Good n P) : ∀ (u : Nat) (b : List Nat),Beg n P b → Chain P b → ∀ o ∈ ringsU P u b,Cyc P o ∧ ∃ r,o = b ++ r ∧ ∀ k ∈ r,b.headD 0 < k
  | 0,b,_,_,o,ho => by simp [ringsU] at ho
  | u + 1,b,B,hch,o,ho => by
    rw [ringsU] at ho
    split at ho
    · rename_i h
      simp at ho
      subst ho
      exact ⟨⟨B.ne,B.lt,B.nd,hch,h⟩,[],by simp,by simp⟩
    · rw [List.mem_flatMap] at ho
      obtain ⟨i,hi,ho⟩ := ho
      rw [List.mem_range'_1] at hi
      split at ho
      · rename_i h
        have hil : i < P.length := by omega
        have hch2 : Chain P (b ++ [i]) := (chain_append b [i]).2 ⟨hch,trivial,fun _ _ => h.1.symm⟩
        obtain ⟨h1,r,h2,h3⟩ := ringsU_cyc G u (b ++ [i]) (B.snoc hil h.2) hch2 o ho
        rw [headD_app b [i] B.ne] at h3
        refine ⟨h1,i :: r,by rw [h2]; simp,?_⟩
        intro k hk
        rcases List.mem_cons.1 hk with rfl | hk
        · omega
        · exact h3 k hk
      · simp at ho
theorem beg_one {n : Nat} {P : List (Nat × Nat)} {i : Nat} (hi : i < P.length) : Beg n P [i] := ⟨by simp,by simpa using hi,by simp⟩
theorem allR_mem {n : Nat} {P : List (Nat × Nat)} (G : Good n P) (o : List Nat) : o ∈ allR P ↔ Cyc P o ∧ ∀ k ∈ o.tail,o.headD 0 < k := by
  unfold allR
  rw [List.mem_flatMap]
  constructor
  · rintro ⟨i,hi,ho⟩
    obtain ⟨h1,r,rfl,h3⟩ := ringsU_cyc G 6 [i] (beg_one (List.mem_range.1 hi)) trivial o ho
    exact ⟨h1,h3⟩
  · rintro ⟨C,h⟩
    cases o with
    | nil => exact absurd rfl C.ne
    | cons i r =>
      have hi := C.lt i (by simp)
      exact ⟨i,List.mem_range.2 hi,ringsU_mem G r [i] 6 (beg_one hi) rfl C h⟩
theorem cyc_min {n : Nat} {P : List (Nat × Nat)} (G : Good n P) {c : List Nat} (C : Cyc P c) : ∃ o,o ∈ allR P := by
  obtain ⟨m,hm,hmin⟩ : ∃ m ∈ c,∀ k ∈ c,m ≤ k := by
    have : ∀ l : List Nat,l ≠ [] → ∃ m ∈ l,∀ k ∈ l,m ≤ k := by
      intro l
      induction l with
      | nil => intro h; exact absurd rfl h
      | cons a l ih =>
        intro _
        by_cases hl : l = []
        · subst hl; exact ⟨a,by simp,by simp⟩
        · obtain ⟨m,h1,h2⟩ := ih hl
          by_cases c : a ≤ m
          · exact ⟨a,by simp,fun k hk => by
              rcases List.mem_cons.1 hk with rfl | hk
              · omega
              · have := h2 k hk; omega⟩
          · exact ⟨m,by simp [h1],fun k hk => by
              rcases List.mem_cons.1 hk with rfl | hk
              · omega
              · exact h2 k hk⟩
    exact this c C.ne
  obtain ⟨l1,l2,rfl⟩ := List.append_of_mem hm
  have hch := (chain_append l1 (m :: l2)).1 C.ch
  have hcl := C.cl
  rw [lastD_app l1 (m :: l2) (by simp)] at hcl
  have hnd := C.nd
  have hperm : ((m :: l2 ++ l1).map (st P)).Perm ((l1 ++ m :: l2).map (st P)) := (List.perm_append_comm).map _
  refine ⟨m :: l2 ++ l1,(allR_mem G _).2 ⟨⟨by simp,?_,hperm.nodup_iff.2 hnd,?_,?_⟩,?_⟩⟩
  · intro k hk
    exact C.lt k ((List.perm_append_comm).mem_iff.1 hk)
  · refine (chain_append (m :: l2) l1).2 ⟨hch.2.1,hch.1,fun _ hl => ?_⟩
    rw [hcl,headD_app l1 _ hl]
  · by_cases hl : l1 = []
    · subst hl; simpa using hcl
    · rw [lastD_app _ _ hl]
      exact hch.2.2 hl (by simp)
  · intro k hk
    have hk' : k ∈ l2 ++ l1 := hk
    have h1 := hmin k (by
      rcases List.mem_append.1 hk' with h | h
      · simp [h]
      · simp [h])
    have h2 : k ≠ m := by
      intro e
      subst e
      have := hperm.nodup_iff.2 hnd
      rw [show k :: l2 ++ l1 = k :: (l2 ++ l1) from rfl,List.map_cons,List.nodup_cons] at this
      exact this.1 (List.mem_map.2 ⟨k,hk',rfl⟩)
    show m < k
    omega
end Go.Am.Ring
set_option linter.unusedVariables false
set_option linter.unusedSimpArgs false
namespace Go.Am.Ring
def setB (r : List Nat) : Nat := r.foldl (fun a i => a ||| 2 ^ i) 0
theorem setB_bitG (x : Nat) : ∀ (r : List Nat) (a : Nat),(r.foldl (fun a i => a ||| 2 ^ i) a).testBit x = (a.testBit x || decide (x ∈ r))
  | [],a => by simp
  | i :: r,a => by
    rw [List.foldl_cons,setB_bitG x r,Nat.testBit_or,Nat.testBit_two_pow,Bool.or_assoc]
    congr 1
    simp only [List.mem_cons]
    by_cases h : x = i
    · simp [h]
    · have : ¬ i = x := fun e => h e.symm
      simp [h,this]
theorem setB_bit (x : Nat) (r : List Nat) : (setB r).testBit x = decide (x ∈ r) := by rw [setB,setB_bitG]; simp
theorem setB_ltG (n : Nat) : ∀ (r : List Nat) (a : Nat),(∀ i ∈ r,i < n) → a < 2 ^ n → r.foldl (fun a i => a ||| 2 ^ i) a < 2 ^ n
  | [],a,_,h => h
  | i :: r,a,hr,h => setB_ltG n r _ (fun y hy => hr y (by simp [hy])) (Nat.or_lt_two_pow h (Nat.pow_lt_pow_right (by omega) (hr i (by simp))))
theorem setB_lt {n : Nat} {r : List Nat} (h : ∀ i ∈ r,i < n) : setB r < 2 ^ n := setB_ltG n r 0 h (Nat.pow_pos (by omega))
theorem setB_snoc (r : List Nat) (i : Nat) : setB (r ++ [i]) = setB r ||| 2 ^ i := by simp [setB]
theorem and_zero {a b : Nat} : a &&& b = 0 ↔ ∀ x,¬ (a.testBit x = true ∧ b.testBit x = true) := by
  constructor
  · intro h x hx
    have := congrArg (·.testBit x) h
    simp only [Nat.testBit_and,Nat.zero_testBit,hx.1,hx.2] at this
    cases this
  · intro h
    apply Nat.eq_of_testBit_eq
    intro x
    rw [Nat.testBit_and,Nat.zero_testBit]
    have := h x
    cases h1 : a.testBit x <;> cases h2 : b.testBit x <;> simp_all
def Dis (a b : List Nat) : Prop := ∀ x ∈ a,x ∉ b
instance (a b : List Nat) : Decidable (Dis a b) := inferInstanceAs (Decidable (∀ x ∈ a,x ∉ b))
theorem Dis.symm {a b : List Nat} (h : Dis a b) : Dis b a := fun x hx hy => h x hy hx
theorem set_dis (a b : List Nat) : setB a &&& setB b = 0 ↔ Dis a b := by
  rw [and_zero]
  simp only [setB_bit,decide_eq_true_eq,not_and]
  exact Iff.rfl
theorem set_or (a b : List Nat) (U : Nat) : setB a &&& (U ||| setB b) = 0 ↔ setB a &&& U = 0 ∧ Dis a b := by
  rw [← set_dis,and_zero,and_zero,and_zero]
  simp only [Nat.testBit_or,Bool.or_eq_true]
  constructor
  · intro h
    exact ⟨fun x hx => h x ⟨hx.1,.inl hx.2⟩,fun x hx => h x ⟨hx.1,.inr hx.2⟩⟩
  · rintro ⟨h1,h2⟩ x ⟨ha,hb | hb⟩
    · exact h1 x ⟨ha,hb⟩
    · exact h2 x ⟨ha,hb⟩
def wo (U : Nat) (l : List (List Nat)) : List (List Nat) := l.filter fun r => decide (setB r &&& U = 0)
theorem wo_mem {U : Nat} {l : List (List Nat)} {r : List Nat} : r ∈ wo U l ↔ r ∈ l ∧ setB r &&& U = 0 := by simp [wo]
theorem wo_zero (l : List (List Nat)) : wo 0 l = l := by simp [wo]
def disT (r : List Nat) (t : List (List Nat)) : List (List Nat) := t.filter fun q => decide (Dis r q)
theorem wo_or (U : Nat) (r : List Nat) (t : List (List Nat)) : wo (U ||| setB r) t = disT r (wo U t) := by
  unfold wo disT
  rw [List.filter_filter]
  refine List.filter_congr fun q _ => ?_
  have := set_or q r U
  rw [Bool.eq_iff_iff,decide_eq_true_eq,this,Bool.and_eq_true,decide_eq_true_eq,decide_eq_true_eq]
  exact ⟨fun h => ⟨h.2.symm,h.1⟩,fun h => ⟨h.2,h.1.symm⟩⟩
def ap (l : List (List Nat)) : List (List Nat) := match l with
  | [] => []
  | r :: t =>
    if 1 + (disT r t).length = (r :: t).length then r :: ap (disT r t)
    else if (r :: ap (disT r t)).length < (ap t).length then ap t else r :: ap (disT r t)
termination_by l.length
decreasing_by
  all_goals
    have := List.length_filter_le (fun q => decide (Dis r q)) t
    first
      | (simp only [disT,List.length_cons]; omega)
      | (simp only [List.length_cons]; omega)
theorem ap_nil : ap [] = [] := by rw [ap]
theorem ap_cons (r : List Nat) (t : List (List Nat)) : ap (r :: t) = if 1 + (disT r t).length = (r :: t).length then r :: ap (disT r t) else if (r :: ap (disT r t)).length < (ap t).length then ap t else r :: ap (disT r t) := by rw [ap]
theorem disT_le (r : List Nat) (t : List (List Nat)) : (disT r t).length ≤ t.length := List.length_filter_le _ _
theorem ap_sub : ∀ (n : Nat) (l : List (List Nat)),l.length ≤ n → (ap l).Sublist l ∧ (ap l).Pairwise Dis
  | _,[],_ => by rw [ap_nil]; exact ⟨List.Sublist.refl _,List.Pairwise.nil⟩
  | 0,r :: t,h => by simp at h
  | n + 1,r :: t,h => by
    simp only [List.length_cons] at h
    have hd := disT_le r t
    have h1 := ap_sub n (disT r t) (by omega)
    have h2 := ap_sub n t (by omega)
    have hw : (r :: ap (disT r t)).Sublist (r :: t) ∧ (r :: ap (disT r t)).Pairwise Dis := by
      refine ⟨(h1.1.trans List.filter_sublist).cons_cons r,List.pairwise_cons.2 ⟨fun q hq => ?_,h1.2⟩⟩
      have := h1.1.subset hq
      simp only [disT,List.mem_filter,decide_eq_true_eq] at this
      exact this.2
    rw [ap_cons]
    split
    · exact hw
    · split
      · exact ⟨h2.1.trans (List.sublist_cons_self r t),h2.2⟩
      · exact hw
theorem pw_erase {Q : List (List Nat)} {r : List Nat} (h : Q.Pairwise Dis) (hr : r ∈ Q) (hne : r ≠ []) : ∀ q ∈ Q.erase r,Dis r q := by
  induction Q with
  | nil => simp at hr
  | cons a Q ih =>
    rw [List.pairwise_cons] at h
    intro q hq
    by_cases c : a = r
    · subst c
      rw [List.erase_cons_head] at hq
      exact h.1 q hq
    · rw [List.erase_cons_tail (by simpa using c)] at hq
      have hr' : r ∈ Q := by
        rcases List.mem_cons.1 hr with e | e
        · exact absurd e.symm c
        · exact e
      rcases List.mem_cons.1 hq with e | e
      · rw [e]; exact (h.1 r hr').symm
      · exact ih h.2 hr' q e
theorem not_self {r : List Nat} (h : r ≠ []) : ¬ Dis r r := by
  cases r with
  | nil => exact absurd rfl h
  | cons a t => exact fun h => h a (by simp) (by simp)
theorem ap_max : ∀ (n : Nat) (l : List (List Nat)),l.length ≤ n → (∀ q ∈ l,q ≠ []) → ∀ Q : List (List Nat),Q.Pairwise Dis → (∀ q ∈ Q,q ∈ l) → Q.length ≤ (ap l).length
  | _,[],_,_,Q,_,hQ => by
    cases Q with
    | nil => simp
    | cons a Q => have := hQ a (by simp); simp at this
  | 0,r :: t,h,_,_,_,_ => by simp at h
  | n + 1,r :: t,h,hne,Q,hpw,hQ => by
    simp only [List.length_cons] at h
    have hd := disT_le r t
    have hr := hne r (by simp)
    have hmem : ∀ q ∈ disT r t,q ∈ t := fun q hq => (List.mem_filter.1 hq).1
    have h1 := ap_max n (disT r t) (by omega) fun q hq => hne q (by simp [hmem q hq])
    have h2 := ap_max n t (by omega) fun q hq => hne q (by simp [hq])
    have hall : Q.length ≤ (ap t).length ∨ Q.length ≤ (r :: ap (disT r t)).length := by
      by_cases c : r ∈ Q
      · right
        have hd := pw_erase hpw c hr
        have := h1 (Q.erase r) (hpw.sublist List.erase_sublist) (fun q hq => by
          have hq2 := hQ q (List.mem_of_mem_erase hq)
          have hdq := hd q hq
          simp only [disT,List.mem_filter,decide_eq_true_eq]
          rcases List.mem_cons.1 hq2 with e | e
          · rw [e] at hdq; exact absurd hdq (not_self hr)
          · exact ⟨e,hdq⟩)
        rw [List.length_erase_of_mem c] at this
        rw [List.length_cons]; omega
      · left
        refine h2 Q hpw fun q hq => ?_
        rcases List.mem_cons.1 (hQ q hq) with e | e
        · exact absurd (e ▸ hq) c
        · exact e
    rw [ap_cons]
    split
    · rename_i c
      simp only [List.length_cons] at c
      have e : disT r t = t := by
        have : (disT r t).length = t.length := by omega
        exact (List.filter_sublist (p := fun q => decide (Dis r q)) (l := t)).eq_of_length this
      rw [e] at hall ⊢
      rw [List.length_cons] at hall ⊢
      omega
    · split
      · omega
      · omega
def mU (R : List (List Nat)) (U : Nat) : Nat := (ap (wo U R)).length
theorem mU_le (R : List (List Nat)) (U : Nat) : mU R U ≤ R.length := by
  have := (ap_sub _ (wo U R) (Nat.le_refl _)).1.length_le
  have h2 := List.length_filter_le (fun r => decide (setB r &&& U = 0)) R
  unfold mU; unfold wo at this ⊢; omega
section
variable {R : List (List Nat)} (hne : ∀ q ∈ R,q ≠ [])
include hne
theorem mU_max {U : Nat} {Q : List (List Nat)} (hpw : Q.Pairwise Dis) (hQ : ∀ q ∈ Q,q ∈ R ∧ setB q &&& U = 0) : Q.length ≤ mU R U :=
  ap_max _ (wo U R) (Nat.le_refl _) (fun q hq => hne q (wo_mem.1 hq).1) Q hpw fun q hq => wo_mem.2 (hQ q hq)
omit hne in
theorem mU_at (U : Nat) : ∃ Q : List (List Nat),Q.Pairwise Dis ∧ (∀ q ∈ Q,q ∈ R ∧ setB q &&& U = 0) ∧ Q.length = mU R U :=
  ⟨ap (wo U R),(ap_sub _ _ (Nat.le_refl _)).2,fun q hq => wo_mem.1 ((ap_sub _ _ (Nat.le_refl _)).1.subset hq),rfl⟩
theorem mU_step {U : Nat} {r : List Nat} (hr : r ∈ R) (hd : setB r &&& U = 0) : 1 + mU R (U ||| setB r) ≤ mU R U := by
  obtain ⟨Q,h1,h2,h3⟩ := mU_at (R := R) (U ||| setB r)
  have := mU_max hne (U := U) (Q := r :: Q) (List.pairwise_cons.2 ⟨fun q hq => ((set_or q r U).1 (h2 q hq).2).2.symm,h1⟩) (fun q hq => by
    rcases List.mem_cons.1 hq with rfl | hq
    · exact ⟨hr,hd⟩
    · exact ⟨(h2 q hq).1,((set_or q r U).1 (h2 q hq).2).1⟩)
  rw [List.length_cons] at this; omega
omit hne in
theorem fold_max (p : List Nat → Bool) (f : List Nat → Nat) : ∀ (l : List (List Nat)) (n : Nat),n ≤ l.foldl (fun n r => if p r = true then (if n < f r then f r else n) else n) n ∧ (∀ r ∈ l,p r = true → f r ≤ l.foldl (fun n r => if p r = true then (if n < f r then f r else n) else n) n) ∧ (l.foldl (fun n r => if p r = true then (if n < f r then f r else n) else n) n = n ∨ ∃ r ∈ l,p r = true ∧ l.foldl (fun n r => if p r = true then (if n < f r then f r else n) else n) n = f r)
  | [],n => by simp
  | a :: l,n => by
    rw [List.foldl_cons]
    have ih := fold_max p f l (if p a = true then (if n < f a then f a else n) else n)
    generalize hn' : (if p a = true then (if n < f a then f a else n) else n) = n' at *
    have h1 : n ≤ n' ∧ (p a = true → f a ≤ n') ∧ (n' = n ∨ (p a = true ∧ n' = f a)) := by
      rw [← hn']
      split
      · rename_i c
        split
        · exact ⟨by omega,fun _ => Nat.le_refl _,.inr ⟨c,rfl⟩⟩
        · exact ⟨by omega,fun _ => by omega,.inl rfl⟩
      · rename_i c
        exact ⟨Nat.le_refl _,fun h => absurd h c,.inl rfl⟩
    refine ⟨by omega,fun r hr hp => ?_,?_⟩
    · rcases List.mem_cons.1 hr with rfl | hr
      · have := h1.2.1 hp; omega
      · exact ih.2.1 r hr hp
    · rcases ih.2.2 with h | ⟨r,hr,hp,h⟩
      · rcases h1.2.2 with h' | ⟨hp,h'⟩
        · exact .inl (by rw [h,h'])
        · exact .inr ⟨a,by simp,hp,by rw [h,h']⟩
      · exact .inr ⟨r,by simp [hr],hp,h⟩
theorem mU_rec (U : Nat) : mU R U = R.foldl (fun n r => if decide (setB r &&& U = 0) = true then (if n < 1 + mU R (U ||| setB r) then 1 + mU R (U ||| setB r) else n) else n) 0 := by
  obtain ⟨_,h2,h3⟩ := fold_max (fun r => decide (setB r &&& U = 0)) (fun r => 1 + mU R (U ||| setB r)) R 0
  apply Nat.le_antisymm
  · obtain ⟨Q,q1,q2,q3⟩ := mU_at (R := R) U
    rw [← q3]
    cases Q with
    | nil => simp
    | cons r Q =>
      rw [List.pairwise_cons] at q1
      have hr := q2 r (by simp)
      have := mU_max hne (U := U ||| setB r) q1.2 fun q hq => ⟨(q2 q (by simp [hq])).1,(set_or q r U).2 ⟨(q2 q (by simp [hq])).2,(q1.1 q hq).symm⟩⟩
      have h := h2 r hr.1 (by simpa using hr.2)
      rw [List.length_cons]
      omega
  · rcases h3 with h | ⟨r,hr,hp,h⟩
    · rw [h]; omega
    · rw [h]; exact mU_step hne hr (by simpa using hp)
omit hne in
def gr (R : List (List Nat)) : List (List Nat) → Nat → List (List Nat)
  | [],_ => []
  | r :: t,U => if setB r &&& U = 0 ∧ 1 + mU R (U ||| setB r) = mU R U then r :: gr R t (U ||| setB r) else gr R t U
omit hne in
def Among (R l : List (List Nat)) (U : Nat) : Prop := ∀ Q : List (List Nat),Q.Pairwise Dis → (∀ q ∈ Q,q ∈ R ∧ setB q &&& U = 0) → Q.length = mU R U → ∀ q ∈ Q,q ∈ l
theorem among_eq {l : List (List Nat)} {U : Nat} (hl : ∀ q ∈ l,q ∈ R) (h : Among R l U) : mU R U = (ap (wo U l)).length := by
  apply Nat.le_antisymm
  · obtain ⟨Q,q1,q2,q3⟩ := mU_at (R := R) U
    rw [← q3]
    exact ap_max _ (wo U l) (Nat.le_refl _) (fun q hq => hne q (hl q (wo_mem.1 hq).1)) Q q1 fun q hq => wo_mem.2 ⟨h Q q1 q2 q3 q hq,(q2 q hq).2⟩
  · have := ap_sub _ (wo U l) (Nat.le_refl _)
    exact mU_max hne this.2 fun q hq => by
      have := wo_mem.1 (this.1.subset hq)
      exact ⟨hl q this.1,this.2⟩
theorem gr_ap : ∀ (l : List (List Nat)) (U : Nat),(∀ q ∈ l,q ∈ R) → Among R l U → gr R l U = ap (wo U l)
  | [],U,_,_ => by rw [gr,wo,List.filter_nil,ap_nil]
  | r :: t, U,hl,hA => by
    have hr := hl r (by simp)
    have hrne := hne r hr
    have ht : ∀ q ∈ t,q ∈ R := fun q hq => hl q (by simp [hq])
    rw [gr]
    by_cases c : setB r &&& U = 0
    · have hwo : wo U (r :: t) = r :: wo U t := by
        unfold wo; rw [List.filter_cons,if_pos (by simpa using c)]
      have hM := among_eq hne hl hA
      rw [hwo] at hM ⊢
      have hstep := mU_step hne hr c
      by_cases c2 : 1 + mU R (U ||| setB r) = mU R U
      · rw [if_pos ⟨c,c2⟩]
        have hA2 : Among R t (U ||| setB r) := by
          intro Q q1 q2 q3 q hq
          have hd : ∀ q ∈ Q,Dis r q := fun q hq => ((set_or q r U).1 (q2 q hq).2).2.symm
          have := hA (r :: Q) (List.pairwise_cons.2 ⟨hd,q1⟩) (fun q hq => by
            rcases List.mem_cons.1 hq with rfl | hq
            · exact ⟨hr,c⟩
            · exact ⟨(q2 q hq).1,((set_or q r U).1 (q2 q hq).2).1⟩) (by rw [List.length_cons]; omega) q (by simp [hq])
          rcases List.mem_cons.1 this with e | e
          · have := hd q hq
            rw [e] at this; exact absurd this (not_self hrne)
          · exact e
        have ih := gr_ap t (U ||| setB r) ht hA2
        have hM2 := among_eq hne ht hA2
        rw [ih]
        rw [wo_or] at hM2 ⊢
        rw [ap_cons]
        split
        · rfl
        · split
          · rename_i h
            exfalso
            have := ap_sub _ (wo U t) (Nat.le_refl _)
            have := mU_max hne this.2 fun q hq => by
              have := wo_mem.1 (this.1.subset hq)
              exact ⟨ht q this.1,this.2⟩
            rw [List.length_cons] at h
            omega
          · rfl
      · rw [if_neg (fun h => c2 h.2)]
        have hA2 : Among R t U := by
          intro Q q1 q2 q3 q hq
          have hrQ : r ∉ Q := fun hm => by
            have hd := pw_erase q1 hm hrne
            have := mU_max hne (U := U ||| setB r) (q1.sublist (List.erase_sublist (a := r))) (fun q hq => ⟨(q2 q (List.mem_of_mem_erase hq)).1,(set_or q r U).2 ⟨(q2 q (List.mem_of_mem_erase hq)).2,(hd q hq).symm⟩⟩)
            rw [List.length_erase_of_mem hm] at this
            have := List.length_pos_of_mem hm
            omega
          rcases List.mem_cons.1 (hA Q q1 q2 q3 q hq) with e | e
          · exact absurd (e ▸ hq) hrQ
          · exact e
        have ih := gr_ap t U ht hA2
        have hM2 := among_eq hne ht hA2
        have hw : (r :: ap (disT r (wo U t))).length < (ap (wo U t)).length := by
          rw [← hM2,List.length_cons]
          have h := ap_sub _ (disT r (wo U t)) (Nat.le_refl _)
          have := mU_max hne (U := U ||| setB r) h.2 (fun q hq => by
            have h1 := h.1.subset hq
            rw [← wo_or] at h1
            have := wo_mem.1 h1
            exact ⟨ht q this.1,this.2⟩)
          omega
        rw [ih,ap_cons]
        split
        · rename_i h
          exfalso
          simp only [List.length_cons] at h
          have e : disT r (wo U t) = wo U t := (List.filter_sublist (p := fun q => decide (Dis r q)) (l := wo U t)).eq_of_length (by unfold disT at h; omega)
          rw [e,List.length_cons] at hw
          omega
        · first
            | rfl
            | rw [if_pos hw]
    · rw [if_neg (fun h => c h.1)]
      have hwo : wo U (r :: t) = wo U t := by
        unfold wo; rw [List.filter_cons,if_neg (by simpa using c)]
      rw [hwo]
      refine gr_ap t U ht fun Q q1 q2 q3 q hq => ?_
      rcases List.mem_cons.1 (hA Q q1 q2 q3 q hq) with e | e
      · exact absurd (e ▸ (q2 q hq).2) c
      · exact e
theorem gr_all : gr R R 0 = ap R := by
  rw [gr_ap hne R 0 (fun q h => h) (fun Q _ h2 _ q hq => (h2 q hq).1),wo_zero]
end
end Go.Am.Ring
set_option linter.unusedVariables false
set_option linter.unusedSimpArgs false
set_option maxRecDepth 10000
namespace Go.Am.Ring
open Go.Am.G
def allUp (p : Nat → Bool) : Nat → Bool
  | 0 => true
  | n + 1 => cond (p n) (allUp p n) false
theorem allUp_at (p : Nat → Bool) : ∀ n,allUp p n = true → ∀ x,x < n → p x = true
  | 0,_,x,hx => by omega
  | n + 1,h,x,hx => by
    simp only [allUp] at h
    cases hc : p n <;> rw [hc] at h
    · cases h
    · by_cases e : x = n
      · subst e; exact hc
      · exact allUp_at p n h x (by omega)
def numL (S : Nat) : List Nat := (List.range 12).filter fun i => S.testBit i
theorem numL_mem {S x : Nat} : x ∈ numL S ↔ x < 12 ∧ S.testBit x = true := by simp [numL]
theorem numL_zero : numL 0 = [] := by decide
def tzP : Nat → Nat → Nat
  | 0,_ => 0
  | u + 1,x => cond (Nat.beq (x % 2) 1) 0 (tzP u (x / 2) + 1)
theorem evC_int (k : IntKind) (n : Int) : evC (.int k n) = .int k n := rfl
theorem evC_bool (b : Bool) : evC (.bool b) = .bool b := rfl
theorem evC_func (f : Nat) (a b : List AV) : evC (.func f a b) = .func f (ofAVs a) (ofAVs b) := rfl
def tabLV : List LV := tab1.map (LV.int .u8)
theorem glo1' : evC (.ptr 1 0) = .elt tabLV 0 := rfl
def cnvL (k : IntKind) : LV → Option LV
  | .int _ n => some (.int k (k.wrap n))
  | _ => none
theorem cnvL_some {k : IntKind} {v w : LV} (h : cnvL k v = some w) : ∃ k' n,v = .int k' n ∧ w = .int k (k.wrap n) := by
  cases v with
  | int k' n => cases h; exact ⟨k',n,rfl,rfl⟩
  | _ => cases h
theorem bind_some' {α β : Type} {o : Option α} {f : α → Option β} {v : β} (h : o.bind f = some v) : ∃ a,o = some a ∧ f a = some v := by
  cases o with
  | none => cases h
  | some a => exact ⟨a,rfl,h⟩
def chTZ (x : Nat) : Option LV :=
  (unL .neg (.int .u64 (x : Int))).bind fun a => (binL .and (.int .u64 (x : Int)) a).bind fun b => (binL .mul b (.int .u64 285870213051353865)).bind fun c => (binL .shr c (.int .u64 58)).bind fun d => (natL d).bind fun j => cond (Nat.blt j 64) (tabLV[j]?.bind fun v => cnvL .i64 v) none
def isN (r : Option LV) (t : Nat) : Bool := match r with
  | some (.int .i64 n) => decide (n = (t : Int))
  | _ => false
theorem isN_some {r : Option LV} {t : Nat} (h : isN r t = true) : r = some (.int .i64 (t : Int)) := by
  unfold isN at h
  split at h
  · rename_i n
    have e : n = (t : Int) := of_decide_eq_true h
    rw [e]
  · cases h
def tzOk (x : Nat) : Bool := Nat.beq x 0 || (isN (chTZ x) (tzP 12 x) && (Nat.blt (tzP 12 x) 12 && (Nat.beq (x &&& (x - 1)) (x - 2 ^ tzP 12 x) && (Nat.beq (x % 2 ^ tzP 12 x) 0 && Nat.beq (x / 2 ^ tzP 12 x % 2) 1))))
theorem tzOk_0 : allUp (fun x => tzOk (0 + x)) 1024 = true := by kernel_rfl
theorem tzOk_1 : allUp (fun x => tzOk (1024 + x)) 1024 = true := by kernel_rfl
theorem tzOk_2 : allUp (fun x => tzOk (2048 + x)) 1024 = true := by kernel_rfl
theorem tzOk_3 : allUp (fun x => tzOk (3072 + x)) 1024 = true := by kernel_rfl
theorem four {p : Nat → Bool} (h0 : allUp (fun x => p (0 + x)) 1024 = true) (h1 : allUp (fun x => p (1024 + x)) 1024 = true) (h2 : allUp (fun x => p (2048 + x)) 1024 = true) (h3 : allUp (fun x => p (3072 + x)) 1024 = true) {x : Nat} (hx : x < 4096) : p x = true := by
  by_cases c0 : x < 1024
  · have := allUp_at _ 1024 h0 x (by omega)
    rwa [show 0 + x = x by omega] at this
  by_cases c1 : x < 2048
  · have := allUp_at _ 1024 h1 (x - 1024) (by omega)
    rwa [show 1024 + (x - 1024) = x by omega] at this
  by_cases c2 : x < 3072
  · have := allUp_at _ 1024 h2 (x - 2048) (by omega)
    rwa [show 2048 + (x - 2048) = x by omega] at this
  have := allUp_at _ 1024 h3 (x - 3072) (by omega)
  rwa [show 3072 + (x - 3072) = x by omega] at this
end Go.Am.Ring
set_option linter.unusedVariables false
set_option linter.unusedSimpArgs false
namespace Go.Am.Ring
theorem contr_zero {P : List (Nat × Nat)} {o : List Nat} (h : contr P o = 0) {k : Nat} (hk : k < P.length) : ¬ pos o (en P k) < pos o (st P k) := by
  unfold contr at h
  rw [List.countP_eq_zero] at h
  have := h _ (List.getElem_mem hk)
  unfold en st
  rw [getD_at P k _ hk]
  simpa using this
theorem chain_pos {n : Nat} {P : List (Nat × Nat)} (G : Good n P) {o : List Nat} (ho : o ∈ ords n) (h0 : contr P o = 0) : ∀ (b : List Nat),b ≠ [] → (∀ k ∈ b,k < P.length) → Chain P b → pos o (st P (b.headD 0)) < pos o (en P (b.getLastD 0))
  | [],h,_,_ => absurd rfl h
  | [k],_,hl,_ => by
    have hk := hl k (by simp)
    have h1 := contr_zero h0 hk
    have h2 := st_lt G hk
    have h3 := pos_inj o (st P k) (en P k) ((ords_ok ho).2.2.2 _ h2.1) h2.2.2
    show pos o (st P k) < pos o (en P k)
    omega
  | a :: b :: r,_,hl,hc => by
    have ih := chain_pos G ho h0 (b :: r) (by simp) (fun k hk => hl k (by simp [hk])) hc.2
    have hk := hl a (by simp)
    have h1 := contr_zero h0 hk
    have h2 := st_lt G hk
    have h3 := pos_inj o (st P a) (en P a) ((ords_ok ho).2.2.2 _ h2.1) h2.2.2
    have e3 : (a :: b :: r).getLastD 0 = (b :: r).getLastD 0 := by simp [List.getLastD]
    rw [e3]
    show pos o (st P a) < _
    have h4 : pos o (st P b) < pos o (en P ((b :: r).getLastD 0)) := ih
    rw [← hc.1] at h4
    omega
theorem ring_contr {n : Nat} {P : List (Nat × Nat)} (G : Good n P) {c : List Nat} (C : Cyc P c) {o : List Nat} (ho : o ∈ ords n) : contr P o ≠ 0 := by
  intro h0
  have := chain_pos G ho h0 c C.ne C.lt C.ch
  rw [C.cl] at this
  omega
theorem back_cyc {n : Nat} {P : List (Nat × Nat)} (G : Good n P) (done : Nat) (hno : ∀ f,f < n → done.testBit f = false → ∃ i,i < P.length ∧ en P i = f ∧ done.testBit (st P i) = false) : ∀ (u : Nat) (b : List Nat),Beg n P b → Chain P b → done.testBit (st P (b.headD 0)) = false → b.length + u = 7 → ∃ c,Cyc P c
  | 0,b,B,_,_,hu => by have := B.len G; omega
  | u + 1,b,B,hch,hd,hu => by
    have hhd : b.headD 0 ∈ b := by
      cases hb : b with
      | nil => exact absurd hb B.ne
      | cons a t => simp
    obtain ⟨i,hi,he,hs⟩ := hno _ (st_lt G (B.lt _ hhd)).1 hd
    by_cases c : st P i ∈ b.map (st P)
    · obtain ⟨k,hk,hks⟩ := List.mem_map.1 c
      obtain ⟨l1,l2,rfl⟩ := List.append_of_mem hk
      have hc1 := (chain_append l1 (k :: l2)).1 hch
      by_cases hl : l1 = []
      · subst hl
        have e : en P i = st P k := he
        exact absurd (hks ▸ e).symm (st_lt G hi).2.2
      · have hnd := B.nd
        rw [List.map_append,List.nodup_append] at hnd
        refine ⟨i :: l1,by simp,?_,?_,?_,?_⟩
        · intro x hx
          rcases List.mem_cons.1 hx with rfl | hx
          · exact hi
          · exact B.lt x (by simp [hx])
        · rw [List.map_cons,List.nodup_cons]
          refine ⟨fun hx => ?_,hnd.1⟩
          exact hnd.2.2 _ hx _ (List.mem_map.2 ⟨k,by simp,rfl⟩) hks.symm
        · refine (chain_append [i] l1).2 ⟨trivial,hc1.1,fun _ _ => ?_⟩
          rw [headD_app l1 _ hl] at he
          exact he
        · have e3 : (i :: l1).getLastD 0 = l1.getLastD 0 := lastD_app [i] l1 hl
          rw [e3]
          show en P (l1.getLastD 0) = st P i
          rw [← hks]
          exact hc1.2.2 hl (by simp)
    · have B' : Beg n P (i :: b) := by
        refine ⟨by simp,?_,?_⟩
        · intro x hx
          rcases List.mem_cons.1 hx with rfl | hx
          · exact hi
          · exact B.lt x hx
        · rw [List.map_cons,List.nodup_cons]
          exact ⟨c,B.nd⟩
      have hch' : Chain P (i :: b) := (chain_append [i] b).2 ⟨trivial,hch,fun _ _ => he⟩
      exact back_cyc G done hno u (i :: b) B' hch' hs (by simp; omega)
theorem topo {n : Nat} {P : List (Nat × Nat)} (G : Good n P) (hno : ∀ c,¬ Cyc P c) : ∀ (u done : Nat),leftN n done = u → (∀ p ∈ P,done.testBit p.2 = true → done.testBit p.1 = true) → ∃ o ∈ compsU anyM n u done,pathC P done o = 0
  | 0,done,_,_ => ⟨[],by simp [compsU],rfl⟩
  | u + 1,done,hu,hinv => by
    -- a form that nothing left comes ahead of
    have hex : ∃ f,f < n ∧ done.testBit f = false ∧ ∀ p ∈ P,p.2 = f → done.testBit p.1 = true := by
      apply Classical.byContradiction
      intro hc
      have hback : ∀ f,f < n → done.testBit f = false → ∃ i,i < P.length ∧ en P i = f ∧ done.testBit (st P i) = false := by
        intro f hf hb
        apply Classical.byContradiction
        intro hn
        refine hc ⟨f,hf,hb,fun p hp hpf => ?_⟩
        obtain ⟨i,hi,rfl⟩ := List.getElem_of_mem hp
        cases hbs : done.testBit P[i].1
        · exact absurd ⟨i,hi,by unfold en; rw [getD_at P i _ hi]; exact hpf,by unfold st; rw [getD_at P i _ hi]; exact hbs⟩ hn
        · rfl
      have hne : leftN n done ≠ 0 := by omega
      unfold leftN at hne
      rw [Ne,List.countP_eq_zero] at hne
      have ⟨f,hf⟩ : ∃ f,f < n ∧ done.testBit f = false := by
        apply Classical.byContradiction
        intro c
        apply hne
        intro x hx
        cases hb : done.testBit x
        · exact absurd ⟨x,List.mem_range.1 hx,hb⟩ c
        · simp
      obtain ⟨i,hi,he,hs⟩ := hback f hf.1 hf.2
      obtain ⟨c,C⟩ := back_cyc G done hback 6 [i] (beg_one hi) trivial hs rfl
      exact hno c C
    obtain ⟨f,hf,hb,hp⟩ := hex
    have hl := leftN_next done f hb n hf
    obtain ⟨o,ho,hpc⟩ := topo G hno u (done ||| 2 ^ f) (by omega) (fun p hpm h => by
      rw [or_bit] at h ⊢
      rcases Bool.or_eq_true _ _ |>.mp h with h | h
      · rw [hinv p hpm h]; rfl
      · have : p.2 = f := by simpa using (of_decide_eq_true h).symm
        rw [hp p hpm this]; rfl)
    refine ⟨f :: o,?_,?_⟩
    · rw [compsU,List.mem_flatMap]
      refine ⟨f,List.mem_range.2 hf,?_⟩
      rw [if_neg (by simp [hb,anyM])]
      exact List.mem_map.2 ⟨o,ho,rfl⟩
    · rw [pathC,hpc,Nat.add_zero]
      unfold costN
      rw [List.countP_eq_zero]
      intro p hpm hc
      simp only [Bool.and_eq_true,beq_iff_eq] at hc
      have := hinv p hpm hc.2
      rw [hc.1,hb] at this
      cases this
abbrev FW (n : Nat) (P : List (Nat × Nat)) : Nat := (fwD anyM P n 0).1
theorem FW_le {n : Nat} {P : List (Nat × Nat)} (G : Good n P) {o : List Nat} (ho : o ∈ ords n) : FW n P ≤ contr P o := (fw_min anyM G).le _ (List.mem_map.2 ⟨o,ho,rfl⟩)
theorem FW_at {n : Nat} {P : List (Nat × Nat)} (G : Good n P) : ∃ o ∈ ords n,contr P o = FW n P := by
  have hne := ords_ne n n 0 (leftN_none n)
  obtain ⟨o,ho,he⟩ := List.mem_map.1 ((fw_min anyM G).mem (by simpa using hne))
  exact ⟨o,ho,he⟩
theorem no_ring {n : Nat} {P : List (Nat × Nat)} (G : Good n P) : allR P = [] ↔ FW n P = 0 := by
  constructor
  · intro h
    have hno : ∀ c,¬ Cyc P c := fun c C => by
      obtain ⟨o,ho⟩ := cyc_min G C
      rw [h] at ho; simp at ho
    obtain ⟨o,ho,hpc⟩ := topo G hno n 0 (leftN_none n) (fun p _ h => by simp at h)
    rw [path_contr anyM (fun p hp => (G.lt p hp).2) ho] at hpc
    have := FW_le G ho
    omega
  · intro h
    obtain ⟨o,ho,hc⟩ := FW_at G
    rw [h] at hc
    cases hr : allR P with
    | nil => rfl
    | cons c r =>
      have := ((allR_mem G c).1 (by rw [hr]; simp)).1
      exact absurd hc (ring_contr G this ho)
end Go.Am.Ring
set_option linter.unusedVariables false
set_option linter.unusedSimpArgs false
set_option maxRecDepth 10000
namespace Go.Am.Ring
open Go.Am.G
def woF (S : List Nat) : Nat → List (Nat × Nat) → List (Nat × Nat)
  | _,[] => []
  | k,p :: r => if k ∈ S then woF S (k + 1) r else p :: woF S (k + 1) r
theorem woF_len (S : List Nat) : ∀ (l : List (Nat × Nat)) (k : Nat),(woF S k l).length ≤ l.length
  | [],k => by simp [woF]
  | p :: r,k => by
    have := woF_len S r (k + 1)
    rw [woF]
    split <;> simp <;> omega
theorem woF_mem (S : List Nat) : ∀ (l : List (Nat × Nat)) (k : Nat),∀ p ∈ woF S k l,p ∈ l
  | [],k,p,h => by simp [woF] at h
  | q :: r,k,p,h => by
    rw [woF] at h
    split at h
    · exact List.mem_cons.2 (.inr (woF_mem S r (k + 1) p h))
    · rcases List.mem_cons.1 h with h | h
      · exact List.mem_cons.2 (.inl h)
      · exact List.mem_cons.2 (.inr (woF_mem S r (k + 1) p h))
theorem good_wo {n : Nat} {P : List (Nat × Nat)} (G : Good n P) (S : List Nat) (k : Nat) : Good n (woF S k P) :=
  ⟨G.pos,G.le6,Nat.le_trans (woF_len S P k) G.le12,fun p hp => G.lt p (woF_mem S P k p hp),fun p hp => G.ne p (woF_mem S P k p hp)⟩
def fromN (b : List Nat) : Nat := if b = [] then 0 else b.getLastD 0 + 1
def strikeS (P : List (Nat × Nat)) : Nat → List Nat → Option (List Nat)
  | 0,b => if allR (woF b 0 P) = [] then some b else none
  | k + 1,b => (List.range' (fromN b) (P.length - fromN b)).findSome? fun i => strikeS P k (b ++ [i])
end Go.Am.Ring
set_option linter.unusedVariables false
set_option linter.unusedSimpArgs false
namespace Go.Am.Ring
def badB (o : List Nat) (p : Nat × Nat) : Bool := decide (pos o p.2 < pos o p.1)
theorem contr_cons (o : List Nat) (p : Nat × Nat) (P : List (Nat × Nat)) : contr (p :: P) o = contr P o + if badB o p then 1 else 0 := by
  unfold contr badB
  rw [List.countP_cons]
theorem wo_congr (S T : List Nat) (h : ∀ x,x ∈ S ↔ x ∈ T) : ∀ (l : List (Nat × Nat)) (k : Nat),woF S k l = woF T k l
  | [],k => rfl
  | p :: r,k => by
    rw [woF,woF,wo_congr S T h r (k + 1)]
    by_cases c : k ∈ S
    · rw [if_pos c,if_pos ((h k).1 c)]
    · rw [if_neg c,if_neg fun c2 => c ((h k).2 c2)]
theorem wo_nil : ∀ (l : List (Nat × Nat)) (k : Nat),woF [] k l = l
  | [],k => rfl
  | p :: r,k => by rw [woF,wo_nil r (k + 1)]; simp
theorem wo_add (o : List Nat) (S : List Nat) (j : Nat) (hj : j ∉ S) : ∀ (l : List (Nat × Nat)) (k : Nat),contr (woF S k l) o = contr (woF (S ++ [j]) k l) o + if k ≤ j ∧ j < k + l.length ∧ badB o (l.getD (j - k) (0,0)) = true then 1 else 0
  | [],k => by simp [woF]; omega
  | p :: r,k => by
    have ih := wo_add o S j hj r (k + 1)
    rw [woF,woF]
    by_cases c : k = j
    · subst c
      rw [if_neg hj,if_pos (by simp),contr_cons,ih]
      have e0 : ¬ (k + 1 ≤ k ∧ k < k + 1 + r.length ∧ badB o (r.getD (k - (k + 1)) (0,0)) = true) := by omega
      rw [if_neg e0]
      simp
    · have e1 : (k ∈ S ++ [j]) ↔ k ∈ S := by simp [c]
      have e2 : (k ≤ j ∧ j < k + (p :: r).length ∧ badB o ((p :: r).getD (j - k) (0,0)) = true) ↔ (k + 1 ≤ j ∧ j < k + 1 + r.length ∧ badB o (r.getD (j - (k + 1)) (0,0)) = true) := by
        constructor
        · rintro ⟨h1,h2,h3⟩
          refine ⟨by omega,by simp at h2; omega,?_⟩
          rw [show j - k = (j - (k + 1)) + 1 by omega] at h3
          simpa using h3
        · rintro ⟨h1,h2,h3⟩
          refine ⟨by omega,by simp; omega,?_⟩
          rw [show j - k = (j - (k + 1)) + 1 by omega]
          simpa using h3
      simp only [e1,e2]
      by_cases c2 : k ∈ S
      · rw [if_pos c2,if_pos c2]; exact ih
      · rw [if_neg c2,if_neg c2,contr_cons,contr_cons,ih]; omega
abbrev wS (P : List (Nat × Nat)) (S : List Nat) : List (Nat × Nat) := woF S 0 P
abbrev FS (n : Nat) (P : List (Nat × Nat)) (S : List Nat) : Nat := FW n (wS P S)
theorem FS_add {n : Nat} {P : List (Nat × Nat)} (G : Good n P) (S : List Nat) (j : Nat) (hj : j ∉ S) : FS n P (S ++ [j]) ≤ FS n P S ∧ FS n P S ≤ FS n P (S ++ [j]) + 1 := by
  have G1 := good_wo G S 0
  have G2 := good_wo G (S ++ [j]) 0
  obtain ⟨o1,h1,e1⟩ := FW_at G1
  obtain ⟨o2,h2,e2⟩ := FW_at G2
  have a1 := wo_add o1 S j hj P 0
  have a2 := wo_add o2 S j hj P 0
  have b1 := FW_le G2 h1
  have b2 := FW_le G1 h2
  simp only [FS,wS] at *
  constructor
  · split at a1 <;> omega
  · split at a2 <;> omega
theorem FS_drop {n : Nat} {P : List (Nat × Nat)} (G : Good n P) (S : List Nat) (h : FS n P S ≠ 0) : ∃ j,j < P.length ∧ j ∉ S ∧ FS n P (S ++ [j]) < FS n P S := by
  obtain ⟨o,ho,he⟩ := FW_at (good_wo G S 0)
  have key : ∀ (l : List (Nat × Nat)) (k : Nat),contr (woF S k l) o ≠ 0 → ∃ j,k ≤ j ∧ j < k + l.length ∧ j ∉ S ∧ badB o (l.getD (j - k) (0,0)) = true := by
    intro l
    induction l with
    | nil => intro k h; simp [woF,contr] at h
    | cons p r ih =>
      intro k h
      rw [woF] at h
      by_cases c : k ∈ S
      · rw [if_pos c] at h
        obtain ⟨j,h1,h2,h3,h4⟩ := ih (k + 1) h
        refine ⟨j,by omega,by simp; omega,h3,?_⟩
        rw [show j - k = (j - (k + 1)) + 1 by omega]
        simpa using h4
      · rw [if_neg c,contr_cons] at h
        by_cases hb : badB o p = true
        · exact ⟨k,Nat.le_refl _,by simp,c,by simpa using hb⟩
        · rw [if_neg hb,Nat.add_zero] at h
          obtain ⟨j,h1,h2,h3,h4⟩ := ih (k + 1) h
          refine ⟨j,by omega,by simp; omega,h3,?_⟩
          rw [show j - k = (j - (k + 1)) + 1 by omega]
          simpa using h4
  obtain ⟨j,_,h2,h3,h4⟩ := key P 0 (by rw [he]; exact h)
  refine ⟨j,by omega,h3,?_⟩
  have a := wo_add o S j h3 P 0
  rw [if_pos ⟨by omega,h2,h4⟩] at a
  have b := FW_le (good_wo G (S ++ [j]) 0) ho
  simp only [FS,wS] at *
  omega
def strikeF (P : List (Nat × Nat)) : Nat → List Nat → Nat → Option (List Nat)
  | 0,b,_ => if allR (woF b 0 P) = [] then some b else none
  | k + 1,b,i => (List.range' i (P.length - i)).findSome? fun i => strikeF P k (b ++ [i]) (i + 1)
theorem strikeS_F (P : List (Nat × Nat)) : ∀ (k : Nat) (b : List Nat),strikeS P k b = strikeF P k b (fromN b)
  | 0,b => rfl
  | k + 1,b => by
    rw [strikeS,strikeF]
    congr 1
    funext i
    rw [strikeS_F P k (b ++ [i])]
    congr 1
    unfold fromN
    simp
theorem strikeF_le {n : Nat} {P : List (Nat × Nat)} (G : Good n P) : ∀ (k : Nat) (b : List Nat) (i : Nat),(∀ x ∈ b,x < i) → ∀ l,strikeF P k b i = some l → FS n P b ≤ k
  | 0,b,i,_,l,h => by
    rw [strikeF] at h
    split at h
    · rename_i hr
      have := (no_ring (good_wo G b 0)).1 hr
      exact Nat.le_of_eq this
    · cases h
  | k + 1,b,i,hb,l,h => by
    rw [strikeF] at h
    obtain ⟨i',hi',h⟩ := List.exists_of_findSome?_eq_some h
    rw [List.mem_range'_1] at hi'
    have := strikeF_le G k (b ++ [i']) (i' + 1) (by
      intro x hx
      rcases List.mem_append.1 hx with hx | hx
      · have := hb x hx; omega
      · rw [List.mem_singleton.1 hx]; omega) l h
    have h2 := (FS_add G b i' (fun c => by have := hb i' c; omega)).2
    omega
def strG (n : Nat) (P : List (Nat × Nat)) : Nat → Nat → List Nat → List Nat
  | 0,_,b => b
  | k + 1,i,b => if FS n P (b ++ [i]) < FS n P b then strG n P k (i + 1) (b ++ [i]) else strG n P k (i + 1) b
theorem strG_zero (n : Nat) (P : List (Nat × Nat)) : ∀ (k i : Nat) (b : List Nat),FS n P b = 0 → strG n P k i b = b
  | 0,_,_,_ => rfl
  | k + 1,i,b,h => by rw [strG,if_neg (by omega)]; exact strG_zero n P k (i + 1) b h
theorem strikeF_G {n : Nat} {P : List (Nat × Nat)} (G : Good n P) : ∀ (d i : Nat) (b : List Nat),i + d = P.length → (∀ x ∈ b,x < i) → (∀ j,j < i → j ∉ b → FS n P (b ++ [j]) = FS n P b) → strikeF P (FS n P b) b i = some (strG n P d i b)
  | d, i, b,hd,hb,hinv => by
    cases hk : FS n P b with
    | zero =>
      rw [strG_zero n P d i b hk,strikeF,if_pos ((no_ring (good_wo G b 0)).2 hk)]
    | succ k =>
      cases d with
      | zero =>
        exfalso
        obtain ⟨j,h1,h2,h3⟩ := FS_drop G b (by omega)
        have := hinv j (by omega) h2
        omega
      | succ d =>
        have hib : i ∉ b := fun c => by have := hb i c; omega
        have hadd := FS_add G b i hib
        rw [strikeF,show P.length - i = d + 1 by omega,List.range'_succ,List.findSome?_cons,strG]
        have hb2 : ∀ x ∈ b ++ [i],x < i + 1 := by
          intro x hx
          rcases List.mem_append.1 hx with hx | hx
          · have := hb x hx; omega
          · rw [List.mem_singleton.1 hx]; omega
        by_cases c : FS n P (b ++ [i]) < FS n P b
        · rw [if_pos c]
          have hk2 : FS n P (b ++ [i]) = k := by omega
          have ih := strikeF_G G d (i + 1) (b ++ [i]) (by omega) hb2 (by
            intro j hj hjn
            have hji : j ≠ i := fun e => hjn (by simp [e])
            have hjb : j ∉ b := fun e => hjn (by simp [e])
            have h1 := FS_add G (b ++ [i]) j hjn
            have h2 := FS_add G (b ++ [j]) i (by simp [hib,Ne.symm hji])
            have h3 := hinv j (by omega) hjb
            have h4 : FS n P (b ++ [i] ++ [j]) = FS n P (b ++ [j] ++ [i]) := by
              unfold FS wS
              rw [wo_congr (b ++ [i] ++ [j]) (b ++ [j] ++ [i]) (by intro x; simp; constructor <;> (rintro (h | h | h) <;> simp [h]))]
            omega)
          rw [hk2] at ih
          rw [ih]
        · rw [if_neg c]
          have hnone : strikeF P k (b ++ [i]) (i + 1) = none := by
            cases h : strikeF P k (b ++ [i]) (i + 1) with
            | none => rfl
            | some l =>
              have := strikeF_le G k (b ++ [i]) (i + 1) hb2 l h
              omega
          rw [hnone]
          have ih := strikeF_G G d (i + 1) b (by omega) (fun x hx => by have := hb x hx; omega) (by
            intro j hj hjb
            by_cases e : j = i
            · subst e; omega
            · exact hinv j (by omega) hjb)
          rw [hk,strikeF,show P.length - (i + 1) = d by omega] at ih
          exact ih
abbrev strL (n : Nat) (P : List (Nat × Nat)) : List Nat := strG n P P.length 0 []
theorem strike_some {n : Nat} {P : List (Nat × Nat)} (G : Good n P) : strikeS P (FW n P) [] = some (strL n P) ∧ ∀ i,i < FW n P → strikeS P i [] = none := by
  have h0 : FS n P [] = FW n P := by unfold FS wS; rw [wo_nil]
  constructor
  · have := strikeF_G G P.length 0 [] (by omega) (by simp) (by omega)
    rw [h0] at this
    rw [strikeS_F]
    exact this
  · intro i hi
    cases h : strikeS P i [] with
    | none => rfl
    | some l =>
      rw [strikeS_F] at h
      have := strikeF_le G i [] (fromN []) (by simp) l h
      omega
end Go.Am.Ring
