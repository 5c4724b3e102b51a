import Derived.Test.YtheppipmnfjdcaaDoorRdC22
import Derived.Test.YtheppipmnfjdcaaDoorRdC14
set_option linter.unusedVariables false
set_option linter.unusedSimpArgs false
namespace Go.Am.Ring
def Dis (a b : List Nat) : Prop := ∀ x ∈ a,x ∉ b
instance (a b : List Nat) : Decidable (Dis a b) := inferInstanceAs (Decidable (∀ x ∈ a,x ∉ b))
theorem Dis.symm {a b : List Nat} (h : Dis a b) : Dis b a := fun x hx hy => h x hy hx
def disT (r : List Nat) (t : List (List Nat)) : List (List Nat) := t.filter fun q => decide (Dis r q)
def ap (l : List (List Nat)) : List (List Nat) := match l with
  | [] => []
  | r :: t =>
    if 1 + (disT r t).length = (r :: t).length then r :: ap (disT r t)
    else if (r :: ap (disT r t)).length < (ap t).length then ap t else r :: ap (disT r t)
termination_by l.length
decreasing_by
  all_goals
    have := List.length_filter_le (fun q => decide (Dis r q)) t
    first
      | (simp only [disT,List.length_cons]; omega)
      | (simp only [List.length_cons]; omega)
section
variable {R : List (List Nat)} (hne : ∀ q ∈ R,q ≠ [])
include hne
end
end Go.Am.Ring
set_option linter.unusedVariables false
set_option linter.unusedSimpArgs false
namespace Go.Am.Ring
theorem contr_zero {P : List (Nat × Nat)} {o : List Nat} (h : contr P o = 0) {k : Nat} (hk : k < P.length) : ¬ pos o (en P k) < pos o (st P k) := by
  unfold contr at h
  rw [List.countP_eq_zero] at h
  have := h _ (List.getElem_mem hk)
  unfold en st
  rw [getD_at P k _ hk]
  simpa using this
theorem chain_pos {n : Nat} {P : List (Nat × Nat)} (G : Good n P) {o : List Nat} (ho : o ∈ ords n) (h0 : contr P o = 0) : ∀ (b : List Nat),b ≠ [] → (∀ k ∈ b,k < P.length) → Chain P b → pos o (st P (b.headD 0)) < pos o (en P (b.getLastD 0))
  | [],h,_,_ => absurd rfl h
  | [k],_,hl,_ => by
    have hk := hl k (by simp)
    have h1 := contr_zero h0 hk
    have h2 := st_lt G hk
    have h3 := pos_inj o (st P k) (en P k) ((ords_ok ho).2.2.2 _ h2.1) h2.2.2
    show pos o (st P k) < pos o (en P k)
    omega
  | a :: b :: r,_,hl,hc => by
    have ih := chain_pos G ho h0 (b :: r) (by simp) (fun k hk => hl k (by simp [hk])) hc.2
    have hk := hl a (by simp)
    have h1 := contr_zero h0 hk
    have h2 := st_lt G hk
    have h3 := pos_inj o (st P a) (en P a) ((ords_ok ho).2.2.2 _ h2.1) h2.2.2
    have e3 : (a :: b :: r).getLastD 0 = (b :: r).getLastD 0 := by simp [List.getLastD]
    rw [e3]
    show pos o (st P a) < _
    have h4 : pos o (st P b) < pos o (en P ((b :: r).getLastD 0)) := ih
    rw [← hc.1] at h4
    omega
theorem ring_contr {n : Nat} {P : List (Nat × Nat)} (G : Good n P) {c : List Nat} (C : Cyc P c) {o : List Nat} (ho : o ∈ ords n) : contr P o ≠ 0 := by
  intro h0
  have := chain_pos G ho h0 c C.ne C.lt C.ch
  rw [C.cl] at this
  omega
theorem back_cyc {n : Nat} {P : List (Nat × Nat)} (G : Good n P) (done : Nat) (hno : ∀ f,f < n → done.testBit f = false → ∃ i,i < P.length ∧ en P i = f ∧ done.testBit (st P i) = false) : ∀ (u : Nat) (b : List Nat),Beg n P b → Chain P b → done.testBit (st P (b.headD 0)) = false → b.length + u = 7 → ∃ c,Cyc P c
  | 0,b,B,_,_,hu => by have := B.len G; omega
  | u + 1,b,B,hch,hd,hu => by
    have hhd : b.headD 0 ∈ b := by
      cases hb : b with
      | nil => exact absurd hb B.ne
      | cons a t => simp
    obtain ⟨i,hi,he,hs⟩ := hno _ (st_lt G (B.lt _ hhd)).1 hd
    by_cases c : st P i ∈ b.map (st P)
    · obtain ⟨k,hk,hks⟩ := List.mem_map.1 c
      obtain ⟨l1,l2,rfl⟩ := List.append_of_mem hk
      have hc1 := (chain_append l1 (k :: l2)).1 hch
      by_cases hl : l1 = []
      · subst hl
        have e : en P i = st P k := he
        exact absurd (hks ▸ e).symm (st_lt G hi).2.2
      · have hnd := B.nd
        rw [List.map_append,List.nodup_append] at hnd
        refine ⟨i :: l1,by simp,?_,?_,?_,?_⟩
        · intro x hx
          rcases List.mem_cons.1 hx with rfl | hx
          · exact hi
          · exact B.lt x (by simp [hx])
        · rw [List.map_cons,List.nodup_cons]
          refine ⟨fun hx => ?_,hnd.1⟩
          exact hnd.2.2 _ hx _ (List.mem_map.2 ⟨k,by simp,rfl⟩) hks.symm
        · refine (chain_append [i] l1).2 ⟨trivial,hc1.1,fun _ _ => ?_⟩
          rw [headD_app l1 _ hl] at he
          exact he
        · have e3 : (i :: l1).getLastD 0 = l1.getLastD 0 := lastD_app [i] l1 hl
          rw [e3]
          show en P (l1.getLastD 0) = st P i
          rw [← hks]
          exact hc1.2.2 hl (by simp)
    · have B' : Beg n P (i :: b) := by
        refine ⟨by simp,?_,?_⟩
        · intro x hx
          rcases List.mem_cons.1 hx with rfl | hx
          · exact hi
          · exact B.lt x hx
        · rw [List.map_cons,List.nodup_cons]
          exact ⟨c,B.nd⟩
      have hch' : Chain P (i :: b) := (chain_append [i] b).2 ⟨trivial,hch,fun _ _ => he⟩
      exact back_cyc G done hno u (i :: b) B' hch' hs (by simp; omega)
theorem topo {n : Nat} {P : List (Nat × Nat)} (G : Good n P) (hno : ∀ c,¬ Cyc P c) : ∀ (u done : Nat),leftN n done = u → (∀ p ∈ P,done.testBit p.2 = true → done.testBit p.1 = true) → ∃ o ∈ compsU anyM n u done,pathC P done o = 0
  | 0,done,_,_ => ⟨[],by simp [compsU],rfl⟩
  | u + 1,done,hu,hinv => by
    -- a form that nothing left comes ahead of
    have hex : ∃ f,f < n ∧ done.testBit f = false ∧ ∀ p ∈ P,p.2 = f → done.testBit p.1 = true := by
      apply Classical.byContradiction
      intro hc
      have hback : ∀ f,f < n → done.testBit f = false → ∃ i,i < P.length ∧ en P i = f ∧ done.testBit (st P i) = false := by
        intro f hf hb
        apply Classical.byContradiction
        intro hn
        refine hc ⟨f,hf,hb,fun p hp hpf => ?_⟩
        obtain ⟨i,hi,rfl⟩ := List.getElem_of_mem hp
        cases hbs : done.testBit P[i].1
        · exact absurd ⟨i,hi,by unfold en; rw [getD_at P i _ hi]; exact hpf,by unfold st; rw [getD_at P i _ hi]; exact hbs⟩ hn
        · rfl
      have hne : leftN n done ≠ 0 := by omega
      unfold leftN at hne
      rw [Ne,List.countP_eq_zero] at hne
      have ⟨f,hf⟩ : ∃ f,f < n ∧ done.testBit f = false := by
        apply Classical.byContradiction
        intro c
        apply hne
        intro x hx
        cases hb : done.testBit x
        · exact absurd ⟨x,List.mem_range.1 hx,hb⟩ c
        · simp
      obtain ⟨i,hi,he,hs⟩ := hback f hf.1 hf.2
      obtain ⟨c,C⟩ := back_cyc G done hback 6 [i] (beg_one hi) trivial hs rfl
      exact hno c C
    obtain ⟨f,hf,hb,hp⟩ := hex
    have hl := leftN_next done f hb n hf
    obtain ⟨o,ho,hpc⟩ := topo G hno u (done ||| 2 ^ f) (by omega) (fun p hpm h => by
      rw [or_bit] at h ⊢
      rcases Bool.or_eq_true _ _ |>.mp h with h | h
      · rw [hinv p hpm h]; rfl
      · have : p.2 = f := by simpa using (of_decide_eq_true h).symm
        rw [hp p hpm this]; rfl)
    refine ⟨f :: o,?_,?_⟩
    · rw [compsU,List.mem_flatMap]
      refine ⟨f,List.mem_range.2 hf,?_⟩
      rw [if_neg (by simp [hb,anyM])]
      exact List.mem_map.2 ⟨o,ho,rfl⟩
    · rw [pathC,hpc,Nat.add_zero]
      unfold costN
      rw [List.countP_eq_zero]
      intro p hpm hc
      simp only [Bool.and_eq_true,beq_iff_eq] at hc
      have := hinv p hpm hc.2
      rw [hc.1,hb] at this
      cases this
abbrev FW (n : Nat) (P : List (Nat × Nat)) : Nat := (fwD anyM P n 0).1
theorem FW_le {n : Nat} {P : List (Nat × Nat)} (G : Good n P) {o : List Nat} (ho : o ∈ ords n) : FW n P ≤ contr P o := (fw_min anyM G).le _ (List.mem_map.2 ⟨o,ho,rfl⟩)
theorem FW_at {n : Nat} {P : List (Nat × Nat)} (G : Good n P) : ∃ o ∈ ords n,contr P o = FW n P := by
  have hne := ords_ne n n 0 (leftN_none n)
  obtain ⟨o,ho,he⟩ := List.mem_map.1 ((fw_min anyM G).mem (by simpa using hne))
  exact ⟨o,ho,he⟩
theorem no_ring {n : Nat} {P : List (Nat × Nat)} (G : Good n P) : allR P = [] ↔ FW n P = 0 := by
  constructor
  · intro h
    have hno : ∀ c,¬ Cyc P c := fun c C => by
      obtain ⟨o,ho⟩ := cyc_min G C
      rw [h] at ho; simp at ho
    obtain ⟨o,ho,hpc⟩ := topo G hno n 0 (leftN_none n) (fun p _ h => by simp at h)
    rw [path_contr anyM (fun p hp => (G.lt p hp).2) ho] at hpc
    have := FW_le G ho
    omega
  · intro h
    obtain ⟨o,ho,hc⟩ := FW_at G
    rw [h] at hc
    cases hr : allR P with
    | nil => rfl
    | cons c r =>
      have := ((allR_mem G c).1 (by rw [hr]; simp)).1
      exact absurd hc (ring_contr G this ho)
end Go.Am.Ring
set_option linter.unusedVariables false
set_option linter.unusedSimpArgs false
set_option maxRecDepth 10000
namespace Go.Am.Ring
open Go.Am.G
def woF (S : List Nat) : Nat → List (Nat × Nat) → List (Nat × Nat)
  | _,[] => []
  | k,p :: r => if k ∈ S then woF S (k + 1) r else p :: woF S (k + 1) r
theorem woF_len (S : List Nat) : ∀ (l : List (Nat × Nat)) (k : Nat),(woF S k l).length ≤ l.length
  | [],k => by simp [woF]
  | p :: r,k => by
    have := woF_len S r (k + 1)
    rw [woF]
    split <;> simp <;> omega
theorem woF_mem (S : List Nat) : ∀ (l : List (Nat × Nat)) (k : Nat),∀ p ∈ woF S k l,p ∈ l
  | [],k,p,h => by simp [woF] at h
  | q :: r,k,p,h => by
    rw [woF] at h
    split at h
    · exact List.mem_cons.2 (.inr (woF_mem S r (k + 1) p h))
    · rcases List.mem_cons.1 h with h | h
      · exact List.mem_cons.2 (.inl h)
      · exact List.mem_cons.2 (.inr (woF_mem S r (k + 1) p h))
theorem good_wo {n : Nat} {P : List (Nat × Nat)} (G : Good n P) (S : List Nat) (k : Nat) : Good n (woF S k P) :=
  ⟨G.pos,G.le6,Nat.le_trans (woF_len S P k) G.le12,fun p hp => G.lt p (woF_mem S P k p hp),fun p hp => G.ne p (woF_mem S P k p hp)⟩
def fromN (b : List Nat) : Nat := if b = [] then 0 else b.getLastD 0 + 1
def strikeS (P : List (Nat × Nat)) : Nat → List Nat → Option (List Nat)
  | 0,b => if allR (woF b 0 P) = [] then some b else none
  | k + 1,b => (List.range' (fromN b) (P.length - fromN b)).findSome? fun i => strikeS P k (b ++ [i])
end Go.Am.Ring
set_option linter.unusedVariables false
set_option linter.unusedSimpArgs false
namespace Go.Am.Ring
def badB (o : List Nat) (p : Nat × Nat) : Bool := decide (pos o p.2 < pos o p.1)
theorem contr_cons (o : List Nat) (p : Nat × Nat) (P : List (Nat × Nat)) : contr (p :: P) o = contr P o + if badB o p then 1 else 0 := by
  unfold contr badB
  rw [List.countP_cons]
theorem wo_congr (S T : List Nat) (h : ∀ x,x ∈ S ↔ x ∈ T) : ∀ (l : List (Nat × Nat)) (k : Nat),woF S k l = woF T k l
  | [],k => rfl
  | p :: r,k => by
    rw [woF,woF,wo_congr S T h r (k + 1)]
    by_cases c : k ∈ S
    · rw [if_pos c,if_pos ((h k).1 c)]
    · rw [if_neg c,if_neg fun c2 => c ((h k).2 c2)]
theorem wo_nil : ∀ (l : List (Nat × Nat)) (k : Nat),woF [] k l = l
  | [],k => rfl
  | p :: r,k => by rw [woF,wo_nil r (k + 1)]; simp
theorem wo_add (o : List Nat) (S : List Nat) (j : Nat) (hj : j ∉ S) : ∀ (l : List (Nat × Nat)) (k : Nat),contr (woF S k l) o = contr (woF (S ++ [j]) k l) o + if k ≤ j ∧ j < k + l.length ∧ badB o (l.getD (j - k) (0,0)) = true then 1 else 0
  | [],k => by simp [woF]; omega
  | p :: r,k => by
    have ih := wo_add o S j hj r (k + 1)
    rw [woF,woF]
    by_cases c : k = j
    · subst c
      rw [if_neg hj,if_pos (by simp),contr_cons,ih]
      have e0 : ¬ (k + 1 ≤ k ∧ k < k + 1 + r.length ∧ badB o (r.getD (k - (k + 1)) (0,0)) = true) := by omega
      rw [if_neg e0]
      simp
    · have e1 : (k ∈ S ++ [j]) ↔ k ∈ S := by simp [c]
      have e2 : (k ≤ j ∧ j < k + (p :: r).length ∧ badB o ((p :: r).getD (j - k) (0,0)) = true) ↔ (k + 1 ≤ j ∧ j < k + 1 + r.length ∧ badB o (r.getD (j - (k + 1)) (0,0)) = true) := by
        constructor
        · rintro ⟨h1,h2,h3⟩
          refine ⟨by omega,by simp at h2; omega,?_⟩
          rw [show j - k = (j - (k + 1)) + 1 by omega] at h3
          simpa using h3
        · rintro ⟨h1,h2,h3⟩
          refine ⟨by omega,by simp; omega,?_⟩
          rw [show j - k = (j - (k + 1)) + 1 by omega]
          simpa using h3
      simp only [e1,e2]
      by_cases c2 : k ∈ S
      · rw [if_pos c2,if_pos c2]; exact ih
      · rw [if_neg c2,if_neg c2,contr_cons,contr_cons,ih]; omega
abbrev wS (P : List (Nat × Nat)) (S : List Nat) : List (Nat × Nat) := woF S 0 P
abbrev FS (n : Nat) (P : List (Nat × Nat)) (S : List Nat) : Nat := FW n (wS P S)
theorem FS_add {n : Nat} {P : List (Nat × Nat)} (G : Good n P) (S : List Nat) (j : Nat) (hj : j ∉ S) : FS n P (S ++ [j]) ≤ FS n P S ∧ FS n P S ≤ FS n P (S ++ [j]) + 1 := by
  have G1 := good_wo G S 0
  have G2 := good_wo G (S ++ [j]) 0
  obtain ⟨o1,h1,e1⟩ := FW_at G1
  obtain ⟨o2,h2,e2⟩ := FW_at G2
  have a1 := wo_add o1 S j hj P 0
  have a2 := wo_add o2 S j hj P 0
  have b1 := FW_le G2 h1
  have b2 := FW_le G1 h2
  simp only [FS,wS] at *
  constructor
  · split at a1 <;> omega
  · split at a2 <;> omega
theorem FS_drop {n : Nat} {P : List (Nat × Nat)} (G : Good n P) (S : List Nat) (h : FS n P S ≠ 0) : ∃ j,j < P.length ∧ j ∉ S ∧ FS n P (S ++ [j]) < FS n P S := by
  obtain ⟨o,ho,he⟩ := FW_at (good_wo G S 0)
  have key : ∀ (l : List (Nat × Nat)) (k : Nat),contr (woF S k l) o ≠ 0 → ∃ j,k ≤ j ∧ j < k + l.length ∧ j ∉ S ∧ badB o (l.getD (j - k) (0,0)) = true := by
    intro l
    induction l with
    | nil => intro k h; simp [woF,contr] at h
    | cons p r ih =>
      intro k h
      rw [woF] at h
      by_cases c : k ∈ S
      · rw [if_pos c] at h
        obtain ⟨j,h1,h2,h3,h4⟩ := ih (k + 1) h
        refine ⟨j,by omega,by simp; omega,h3,?_⟩
        rw [show j - k = (j - (k + 1)) + 1 by omega]
        simpa using h4
      · rw [if_neg c,contr_cons] at h
        by_cases hb : badB o p = true
        · exact ⟨k,Nat.le_refl _,by simp,c,by simpa using hb⟩
        · rw [if_neg hb,Nat.add_zero] at h
          obtain ⟨j,h1,h2,h3,h4⟩ := ih (k + 1) h
          refine ⟨j,by omega,by simp; omega,h3,?_⟩
          rw [show j - k = (j - (k + 1)) + 1 by omega]
          simpa using h4
  obtain ⟨j,_,h2,h3,h4⟩ := key P 0 (by rw [he]; exact h)
  refine ⟨j,by omega,h3,?_⟩
  have a := wo_add o S j h3 P 0
  rw [if_pos ⟨by omega,h2,h4⟩] at a
  have b := FW_le (good_wo G (S ++ [j]) 0) ho
  simp only [FS,wS] at *
  omega
def strikeF (P : List (Nat × Nat)) : Nat → List Nat → Nat → Option (List Nat)
  | 0,b,_ => if allR (woF b 0 P) = [] then some b else none
  | k + 1,b,i => (List.range' i (P.length - i)).findSome? fun i => strikeF P k (b ++ [i]) (i + 1)
theorem strikeS_F (P : List (Nat × Nat)) : ∀ (k : Nat) (b : List Nat),strikeS P k b = strikeF P k b (fromN b)
  | 0,b => rfl
  | k + 1,b => by
    rw [strikeS,strikeF]
    congr 1
    funext i
    rw [strikeS_F P k (b ++ [i])]
    congr 1
    unfold fromN
    simp
theorem strikeF_le {n : Nat} {P : List (Nat × Nat)} (G : Good n P) : ∀ (k : Nat) (b : List Nat) (i : Nat),(∀ x ∈ b,x < i) → ∀ l,strikeF P k b i = some l → FS n P b ≤ k
  | 0,b,i,_,l,h => by
    rw [strikeF] at h
    split at h
    · rename_i hr
      have := (no_ring (good_wo G b 0)).1 hr
      exact Nat.le_of_eq this
    · cases h
  | k + 1,b,i,hb,l,h => by
    rw [strikeF] at h
    obtain ⟨i',hi',h⟩ := List.exists_of_findSome?_eq_some h
    rw [List.mem_range'_1] at hi'
    have := strikeF_le G k (b ++ [i']) (i' + 1) (by
      intro x hx
      rcases List.mem_append.1 hx with hx | hx
      · have := hb x hx; omega
      · rw [List.mem_singleton.1 hx]; omega) l h
    have h2 := (FS_add G b i' (fun c => by have := hb i' c; omega)).2
    omega
def strG (n : Nat) (P : List (Nat × Nat)) : Nat → Nat → List Nat → List Nat
  | 0,_,b => b
  | k + 1,i,b => if FS n P (b ++ [i]) < FS n P b then strG n P k (i + 1) (b ++ [i]) else strG n P k (i + 1) b
theorem strG_zero (n : Nat) (P : List (Nat × Nat)) : ∀ (k i : Nat) (b : List Nat),FS n P b = 0 → strG n P k i b = b
  | 0,_,_,_ => rfl
  | k + 1,i,b,h => by rw [strG,if_neg (by omega)]; exact strG_zero n P k (i + 1) b h
theorem strikeF_G {n : Nat} {P : List (Nat × Nat)} (G : Good n P) : ∀ (d i : Nat) (b : List Nat),i + d = P.length → (∀ x ∈ b,x < i) → (∀ j,j < i → j ∉ b → FS n P (b ++ [j]) = FS n P b) → strikeF P (FS n P b) b i = some (strG n P d i b)
  | d, i, b,hd,hb,hinv => by
    cases hk : FS n P b with
    | zero =>
      rw [strG_zero n P d i b hk,strikeF,if_pos ((no_ring (good_wo G b 0)).2 hk)]
    | succ k =>
      cases d with
      | zero =>
        exfalso
        obtain ⟨j,h1,h2,h3⟩ := FS_drop G b (by omega)
        have := hinv j (by omega) h2
        omega
      | succ d =>
        have hib : i ∉ b := fun c => by have := hb i c; omega
        have hadd := FS_add G b i hib
        rw [strikeF,show P.length - i = d + 1 by omega,List.range'_succ,List.findSome?_cons,strG]
        have hb2 : ∀ x ∈ b ++ [i],x < i + 1 := by
          intro x hx
          rcases List.mem_append.1 hx with hx | hx
          · have := hb x hx; omega
          · rw [List.mem_singleton.1 hx]; omega
        by_cases c : FS n P (b ++ [i]) < FS n P b
        · rw [if_pos c]
          have hk2 : FS n P (b ++ [i]) = k := by omega
          have ih := strikeF_G G d (i + 1) (b ++ [i]) (by omega) hb2 (by
            intro j hj hjn
            have hji : j ≠ i := fun e => hjn (by simp [e])
            have hjb : j ∉ b := fun e => hjn (by simp [e])
            have h1 := FS_add G (b ++ [i]) j hjn
            have h2 := FS_add G (b ++ [j]) i (by simp [hib,Ne.symm hji])
            have h3 := hinv j (by omega) hjb
            have h4 : FS n P (b ++ [i] ++ [j]) = FS n P (b ++ [j] ++ [i]) := by
              unfold FS wS
              rw [wo_congr (b ++ [i] ++ [j]) (b ++ [j] ++ [i]) (by intro x; simp; constructor <;> (rintro (h | h | h) <;> simp [h]))]
            omega)
          rw [hk2] at ih
          rw [ih]
        · rw [if_neg c]
          have hnone : strikeF P k (b ++ [i]) (i + 1) = none := by
            cases h : strikeF P k (b ++ [i]) (i + 1) with
            | none => rfl
            | some l =>
              have := strikeF_le G k (b ++ [i]) (i + 1) hb2 l h
              omega
          rw [hnone]
          have ih := strikeF_G G d (i + 1) b (by omega) (fun x hx => by have := hb x hx; omega) (by
            intro j hj hjb
            by_cases e : j = i
            · subst e; omega
            · exact hinv j (by omega) hjb)
          rw [hk,strikeF,show P.length - (i + 1) = d by omega] at ih
          exact ih
abbrev strL (n : Nat) (P : List (Nat × Nat)) : List Nat := strG n P P.length 0 []
theorem strike_some {n : Nat} {P : List (Nat × Nat)} (G : Good n P) : strikeS P (FW n P) [] = some (strL n P) ∧ ∀ i,i < FW n P → strikeS P i [] = none := by
  have h0 : FS n P [] = FW n P := by unfold FS wS; rw [wo_nil]
  constructor
  · have := strikeF_G G P.length 0 [] (by omega) (by simp) (by omega)
    rw [h0] at this
    rw [strikeS_F]
    exact this
  · intro i hi
    cases h : strikeS P i [] with
    | none => rfl
    | some l =>
      rw [strikeS_F] at h
      have := strikeF_le G i [] (fromN []) (by simp) l h
      omega
end Go.Am.Ring
set_option linter.unusedVariables false
set_option linter.unusedSimpArgs false
set_option maxRecDepth 10000
namespace Go.Am.Ring
open Go.Am.G
end Go.Am.Ring
set_option linter.unusedVariables false
set_option linter.unusedSimpArgs false
set_option maxRecDepth 10000
namespace Go.Am.Ring
open Go.Am.G
def idxI (x : Int) : List Int → Nat → Int
  | [],_ => -1
  | a :: r,k => if x = a then (k : Int) else idxI x r (k + 1)
theorem idxI_mem (x : Int) : ∀ (l : List Int) (k : Nat),(0 ≤ idxI x l k) ↔ x ∈ l
  | [],k => by simp [idxI]
  | a :: r,k => by
    rw [idxI]
    by_cases h : x = a
    · simp [h]
    · simp [h,idxI_mem x r (k + 1)]
theorem index_loop (nl ex : Bool) (sz : Nat) (l : List Int) (x : Int) (hl : l.length < 1000000) (n : Nat) : ∀ k,k + n = l.length →
    exF LP slices_Index_int_int.L0 [(0,IL nl ex sz l),(1,.int .i64 x),(7,.int .i64 (l.length : Int)),(8,.int .i64 (k : Int))] [] =
      if idxI x (l.drop k) k < 0 then some (.exit 0,[],[]) else some (.ret,[(4,.int .i64 (idxI x (l.drop k) k))],[]) := by
  induction n with
  | zero =>
    intro k hk
    rw [slices_Index_int_int.L0_eq]
    simp only [slices_Index_int_int.B0,exF_seq,exF_region,exF_cond,exF_exit,runL,wantL,stepL,evL,LEnv.at,putL,loadFine,LEnv.keep,List.map_cons,List.map_nil,nbeq,bin_lss,Nat.reduceEqDiff,decide_true,decide_false,cond_true,cond_false,reduceCtorEq,eq_self,show ¬ ((k : Int) < (l.length : Int)) by omega]
    simp [List.drop_eq_nil_of_le (show l.length ≤ k by omega),idxI]
  | succ n ih =>
    intro k hk
    have h2 : k < l.length := by omega
    rw [slices_Index_int_int.L0_eq,List.drop_eq_getElem_cons h2,idxI]
    have hn : ¬ ((k : Int) < 0) := by omega
    by_cases he : x = l[k]
    · simp only [slices_Index_int_int.B0,exF_seq,exF_region,exF_block,exF_cond,exF_ret,exF_skip,runL,wantL,stepL,evL,LEnv.at,putL,loadFine,loadL,cellsAt,Trk.putNew,Trk.up,Trk.touch,Trk.gives,Trk.calm,opdsOf,Trk.fresh,LEnv.keep,List.map_cons,List.map_nil,nbeq,nble,nblt,bin_eql,bin_lss,natL_nat,List.any_cons,List.any_nil,Bool.or_false,Bool.or_true,Bool.and_true,Bool.false_and,Bool.not_true,Bool.not_false,Nat.reduceEqDiff,decide_true,decide_false,cond_true,cond_false,List.filter_nil,Nat.reduceAdd,Nat.reduceLeDiff,reduceCtorEq,List.length_nil,Nat.mul_one,if_true,if_false,eq_self,show ((k : Int) < (l.length : Int)) by omega,h2,int_at _ _ _ h2,he,hn]
    · simp only [slices_Index_int_int.B0,exF_seq,exF_region,exF_block,exF_cond,exF_skip,runL,wantL,stepL,evL,evC,LEnv.at,putL,loadFine,loadL,cellsAt,Trk.putNew,Trk.up,Trk.touch,Trk.gives,Trk.calm,opdsOf,Trk.fresh,LEnv.keep,List.map_cons,List.map_nil,nbeq,nble,nblt,bin_add,bin_eql,bin_lss,natL_nat,List.any_cons,List.any_nil,Bool.or_false,Bool.or_true,Bool.and_true,Bool.false_and,Bool.not_true,Bool.not_false,Nat.reduceEqDiff,decide_true,decide_false,cond_true,cond_false,List.filter_nil,Nat.reduceAdd,Nat.reduceLeDiff,reduceCtorEq,List.length_nil,Nat.mul_one,if_false,eq_self,show ((k : Int) < (l.length : Int)) by omega,h2,int_at _ _ _ h2,he,wrap_succ (show k + 1 < 9223372036854775808 by omega),ih (k + 1) (by omega)]
theorem index_c (nl ex : Bool) (sz : Nat) (l : List Int) (x : Int) (hl : l.length < 1000000) (m : LMem) : clF LP n_slices_Index_int_int [IL nl ex sz l,.int .i64 x] m = some (.P,.int .i64 (idxI x l 0),m) := by
  refine call_P lp_slices_Index_int_int rfl (by simp [LV.pures,LV.pure]) (m1 := []) ?_ rfl m
  have h := index_loop nl ex sz l x hl l.length 0 (by omega)
  simp only [Int.natCast_zero,List.drop_zero] at h
  by_cases hc : idxI x l 0 < 0
  · have : idxI x l 0 = -1 := by
      have : ∀ (l : List Int) (k : Nat),idxI x l k < 0 → idxI x l k = -1 := by
        intro l
        induction l with
        | nil => intro k _; rfl
        | cons a r ih => intro k h; rw [idxI] at h ⊢; split at h <;> rename_i c <;> simp only [c,if_true,if_false] at * <;> first | omega | exact ih _ h
      exact this l 0 hc
    simp only [slices_Index_int_int,slices_Index_int_int.B,exF_seq,exF_region,exF_block,exF_ret,runL,wantL,stepL,evL,evC,LEnv.at,putL,loadFine,LEnv.keep,LEnv.ofFrom,List.map_cons,List.map_nil,nbeq,lenL,Nat.reduceEqDiff,decide_true,decide_false,cond_true,cond_false,Nat.reduceAdd,reduceCtorEq,if_true,eq_self,retL,resultsL,resAllL,resOfL,h,hc]
    rw [this]
  · simp only [slices_Index_int_int,slices_Index_int_int.B,exF_seq,exF_region,exF_block,runL,wantL,stepL,evL,evC,LEnv.at,putL,loadFine,LEnv.keep,LEnv.ofFrom,List.map_cons,List.map_nil,nbeq,lenL,Nat.reduceEqDiff,decide_true,decide_false,cond_true,cond_false,Nat.reduceAdd,reduceCtorEq,if_false,eq_self,retL,resultsL,resAllL,resOfL,h,hc]
theorem contains_c (nl ex : Bool) (sz : Nat) (l : List Int) (x : Int) (hl : l.length < 1000000) (m : LMem) : clF LP n_slices_Contains_int_int [IL nl ex sz l,.int .i64 x] m = some (.P,.bool (decide (x ∈ l)),m) := by
  refine call_P lp_slices_Contains_int_int rfl (by simp [LV.pures,LV.pure]) (m1 := []) ?_ rfl m
  have h := fun m => index_c nl ex sz l x hl m
  have h2 := idxI_mem x l 0
  simp only [slices_Contains_int_int,slices_Contains_int_int.B,exF_seq,exF_region,exF_ret,runL,wantL,stepL,evL,evC,LEnv.at,putL,loadFine,LEnv.keep,LEnv.ofFrom,List.map_cons,List.map_nil,nbeq,ofAVs,bin_geq,Nat.reduceEqDiff,decide_true,decide_false,cond_true,cond_false,Nat.reduceAdd,reduceCtorEq,eq_self,retL,resultsL,resAllL,resOfL,List.append_nil,List.nil_append,h]
  rw [decide_eq_decide.2 h2]
end Go.Am.Ring
