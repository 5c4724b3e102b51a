import Derived.Test.YtheppipmnfjdcaaDoorRdC15
import Derived.Test.YtheppipmnfjdcaaDoorRdP11
import Derived.Test.YtheppipmnfjdcaaDoorRdP10
import Derived.Test.YtheppipmnfjdcaaDoorRdD3
set_option linter.unusedVariables false
set_option linter.unusedSimpArgs false
namespace Go.Am.Ring
open Go.Am.G
theorem cpl_bit {S L : Nat} (h : S < 2 ^ L) (x : Nat) : (2 ^ L - 1 - S).testBit x = (decide (x < L) && !S.testBit x) := by
  rw [show 2 ^ L - 1 - S = 2 ^ L - (S + 1) by omega,Nat.testBit_two_pow_sub_succ h]
def mI (R : List (List Nat)) (L S : Nat) : Nat := mU R (2 ^ L - 1 - S)
def Ins (S : Nat) (q : List Nat) : Prop := ∀ x ∈ q,S.testBit x = true
theorem in_iff {L S : Nat} (h : S < 2 ^ L) {q : List Nat} (hq : ∀ x ∈ q,x < L) : setB q &&& (2 ^ L - 1 - S) = 0 ↔ Ins S q := by
  rw [and_zero]
  constructor
  · intro hh x hx
    have := hh x
    rw [setB_bit,cpl_bit h] at this
    have hl := hq x hx
    cases e : S.testBit x
    · exact absurd ⟨by simp [hx],by simp [hl,e]⟩ this
    · rfl
  · intro hh x hx
    rw [setB_bit,cpl_bit h] at hx
    have h1 := hh x (by simpa using hx.1)
    rw [h1] at hx
    simp at hx
section
variable {R : List (List Nat)} {L : Nat} (hne : ∀ q ∈ R,q ≠ []) (hlt : ∀ q ∈ R,∀ x ∈ q,x < L)
include hne hlt
theorem mI_max {S : Nat} (hS : S < 2 ^ L) {Q : List (List Nat)} (hpw : Q.Pairwise Dis) (hQ : ∀ q ∈ Q,q ∈ R ∧ Ins S q) : Q.length ≤ mI R L S :=
  mU_max hne hpw fun q hq => ⟨(hQ q hq).1,(in_iff hS (hlt q (hQ q hq).1)).2 (hQ q hq).2⟩
omit hne in
theorem mI_at {S : Nat} (hS : S < 2 ^ L) : ∃ Q : List (List Nat),Q.Pairwise Dis ∧ (∀ q ∈ Q,q ∈ R ∧ Ins S q) ∧ Q.length = mI R L S := by
  obtain ⟨Q,h1,h2,h3⟩ := mU_at (R := R) (2 ^ L - 1 - S)
  exact ⟨Q,h1,fun q hq => ⟨(h2 q hq).1,(in_iff hS (hlt q (h2 q hq).1)).1 (h2 q hq).2⟩,h3⟩
theorem mI_add {A B S : Nat} (hA : A < 2 ^ L) (hB : B < 2 ^ L) (hS : S < 2 ^ L) (hd : A &&& B = 0) (hAS : A &&& S = A) (hBS : B &&& S = B) : mI R L A + mI R L B ≤ mI R L S := by
  obtain ⟨QA,a1,a2,a3⟩ := mI_at (R := R) hlt hA
  obtain ⟨QB,b1,b2,b3⟩ := mI_at (R := R) hlt hB
  have up : ∀ {T : Nat},T &&& S = T → ∀ x,T.testBit x = true → S.testBit x = true := by
    intro T h x hx
    rw [← h,Nat.testBit_and,Bool.and_eq_true] at hx
    exact hx.2
  have := mI_max hne hlt hS (Q := QA ++ QB) (List.pairwise_append.2 ⟨a1,b1,fun p hp q hq x hx hy => and_zero.1 hd x ⟨(a2 p hp).2 x hx,(b2 q hq).2 x hy⟩⟩) (fun q hq => by
    rcases List.mem_append.1 hq with h | h
    · exact ⟨(a2 q h).1,fun x hx => up hAS x ((a2 q h).2 x hx)⟩
    · exact ⟨(b2 q h).1,fun x hx => up hBS x ((b2 q h).2 x hx)⟩)
  rw [List.length_append] at this
  omega
theorem mI_ring {S : Nat} (hS : S < 2 ^ L) {r : List Nat} (hr : r ∈ R) (hi : Ins S r) : 1 ≤ mI R L S :=
  mI_max hne hlt hS (Q := [r]) (List.pairwise_singleton _ _) (fun q hq => by rw [List.mem_singleton.1 hq]; exact ⟨hr,hi⟩)
theorem mI_zero : mI R L 0 = 0 := by
  obtain ⟨Q,h1,h2,h3⟩ := mI_at (R := R) hlt (S := 0) (Nat.pow_pos (by omega))
  cases Q with
  | nil => exact h3.symm
  | cons q t =>
    obtain ⟨a,b⟩ := h2 q (by simp)
    cases q with
    | nil => exact absurd rfl (hne _ a)
    | cons x q => have := b x (by simp); simp at this
theorem mI_split (hL12 : L ≤ 12) {S : Nat} (hS : S < 2 ^ L) (h0 : mI R L S ≠ 0) : (∃ r ∈ R,setB r = S) ∧ mI R L S = 1 ∨ ∃ r ∈ R,Ins S r ∧ setB r ≠ S ∧ mI R L S ≤ mI R L (setB r) + mI R L (andN S (setB r)) := by
  have hL : ∀ q ∈ R,setB q < 2 ^ L := fun q hq => setB_lt (hlt q hq)
  obtain ⟨Q,h1,h2,h3⟩ := mI_at (R := R) hlt hS
  cases Q with
  | nil => exact absurd h3.symm h0
  | cons r t =>
    obtain ⟨hr,hi⟩ := h2 r (by simp)
    rw [List.pairwise_cons] at h1
    by_cases c : setB r = S
    · refine .inl ⟨⟨r,hr,c⟩,?_⟩
      cases t with
      | nil => exact h3.symm
      | cons q t =>
        exfalso
        obtain ⟨hq,hj⟩ := h2 q (by simp)
        obtain ⟨x,hx⟩ := List.exists_mem_of_ne_nil q (hne q hq)
        have := hj x hx
        rw [← c,setB_bit] at this
        exact h1.1 q (by simp) x (by simpa using this) hx
    · refine .inr ⟨r,hr,hi,c,?_⟩
      have g1 := mI_ring hne hlt (hL r hr) hr (fun x hx => by rw [setB_bit]; simpa using hx)
      have h2p : 2 ^ L ≤ 2 ^ 12 := Nat.pow_le_pow_right (by omega) hL12
      have g2 := mI_max hne hlt (andN_lt S (setB r) L hS (by omega)) h1.2 (fun q hq => ⟨(h2 q (by simp [hq])).1,fun x hx => by
        rw [andN_bit _ _ _ (by omega),(h2 q (by simp [hq])).2 x hx,setB_bit]
        simp only [Bool.true_and,Bool.not_eq_true',decide_eq_false_iff_not]
        exact fun hxr => h1.1 q hq x hxr hx⟩)
      rw [List.length_cons] at h3
      omega
omit hne hlt in
theorem part_le : ∀ (n S p q : Nat),p ≤ n → p &&& S = p → q &&& S = q → q < p → q ≤ (p - 1) &&& S := by
  intro n
  induction n with
  | zero => intro S p q h1 _ _ h; omega
  | succ n ih =>
    intro S p q hn hp hq h
    have d1 : (p &&& S) / 2 = p / 2 &&& S / 2 := Nat.and_div_two
    have d2 : (q &&& S) / 2 = q / 2 &&& S / 2 := Nat.and_div_two
    have d3 : ((p - 1) &&& S) / 2 = (p - 1) / 2 &&& S / 2 := Nat.and_div_two
    have m2 : (q &&& S) % 2 = (q % 2 &&& S % 2) := Nat.and_mod_two_pow (n := 1)
    have m3 : ((p - 1) &&& S) % 2 = ((p - 1) % 2 &&& S % 2) := Nat.and_mod_two_pow (n := 1)
    rw [hp] at d1
    rw [hq] at d2 m2
    have hS2 : S % 2 = 0 ∨ S % 2 = 1 := by omega
    have hq2 : q % 2 = 0 ∨ q % 2 = 1 := by omega
    have hp2 : p % 2 = 0 ∨ p % 2 = 1 := by omega
    rcases hp2 with hp2 | hp2
    · have ih := ih (S / 2) (p / 2) (q / 2) (by omega) d1.symm d2.symm (by omega)
      have e1 : (p - 1) / 2 = p / 2 - 1 := by omega
      have e2 : (p - 1) % 2 = 1 := by omega
      rw [e1] at d3
      rw [e2] at m3
      rcases hS2 with hS2 | hS2 <;> rcases hq2 with hq2 | hq2 <;> simp only [hS2,hq2,show (0 &&& 0 : Nat) = 0 from rfl,show (1 &&& 0 : Nat) = 0 from rfl,show (0 &&& 1 : Nat) = 0 from rfl,show (1 &&& 1 : Nat) = 1 from rfl] at m2 m3 <;> omega
    · have e1 : (p - 1) / 2 = p / 2 := by omega
      have e2 : (p - 1) % 2 = 0 := by omega
      rw [e1,← d1] at d3
      omega
def partsF (S : Nat) : Nat → Nat → List Nat
  | 0,_ => []
  | d + 1,p => if p = 0 then [] else p :: partsF S d ((p - 1) &&& S)
omit hne hlt in
theorem and_sub (a S : Nat) : (a &&& S) &&& S = a &&& S := by rw [Nat.and_assoc,Nat.and_self]
omit hne hlt in
theorem parts_mem (S : Nat) : ∀ (d p : Nat),p ≤ d → p &&& S = p → ∀ q,q ∈ partsF S d p ↔ q ≠ 0 ∧ q &&& S = q ∧ q ≤ p := by
  intro d
  induction d with
  | zero => intro p h1 h2 q; simp only [partsF,List.not_mem_nil,false_iff]; omega
  | succ d ih =>
    intro p h1 h2 q
    rw [partsF]
    split
    · rename_i c; simp only [List.not_mem_nil,false_iff]; omega
    · rename_i c
      have hle : (p - 1) &&& S ≤ p - 1 := Nat.and_le_left
      rw [List.mem_cons,ih ((p - 1) &&& S) (by omega) (and_sub _ _) q]
      constructor
      · rintro (rfl | ⟨a,b,e⟩)
        · exact ⟨c,h2,Nat.le_refl _⟩
        · exact ⟨a,b,by omega⟩
      · rintro ⟨a,b,e⟩
        by_cases cc : q = p
        · exact .inl cc
        · exact .inr ⟨a,b,part_le p S p q (Nat.le_refl _) h2 b (by omega)⟩
def bestP (T : Nat → Nat) (S F : Nat) (l : List Nat) (v : Nat) : Nat := l.foldl (fun v p => if p &&& F ≠ 0 ∧ p ≠ S then max v (T p + T (andN S p)) else v) v
omit hne hlt in
theorem bestP_ge (T : Nat → Nat) (S F : Nat) : ∀ (l : List Nat) (v : Nat),v ≤ bestP T S F l v ∧ (∀ p ∈ l,p &&& F ≠ 0 → p ≠ S → T p + T (andN S p) ≤ bestP T S F l v) ∧ (∀ B,v ≤ B → (∀ p ∈ l,p &&& F ≠ 0 → p ≠ S → T p + T (andN S p) ≤ B) → bestP T S F l v ≤ B)
  | [],v => ⟨Nat.le_refl _,by simp,fun B h _ => h⟩
  | p :: l,v => by
    have ih := bestP_ge T S F l (if p &&& F ≠ 0 ∧ p ≠ S then max v (T p + T (andN S p)) else v)
    have e : bestP T S F (p :: l) v = bestP T S F l (if p &&& F ≠ 0 ∧ p ≠ S then max v (T p + T (andN S p)) else v) := rfl
    rw [e]
    obtain ⟨i1,i2,i3⟩ := ih
    refine ⟨?_,?_,?_⟩
    · refine Nat.le_trans ?_ i1
      split
      · exact Nat.le_max_left _ _
      · exact Nat.le_refl _
    · intro q hq h1 h2
      rcases List.mem_cons.1 hq with rfl | hq
      · refine Nat.le_trans ?_ i1
        rw [if_pos ⟨h1,h2⟩]
        exact Nat.le_max_right _ _
      · exact i2 q hq h1 h2
    · intro B hv hB
      refine i3 B ?_ fun q hq => hB q (by simp [hq])
      split
      · rename_i c
        exact Nat.max_le.2 ⟨hv,hB p (by simp) c.1 c.2⟩
      · exact hv
def wholeR (R : List (List Nat)) (S : Nat) : Nat := if R.any (fun r => decide (setB r = S)) = true then 1 else 0
theorem mI_dp (hL12 : L ≤ 12) {S F : Nat} (hS : S < 2 ^ L) (hF0 : F ≠ 0) (hFS : F &&& S = F) : bestP (mI R L) S F (partsF S S S) (wholeR R S) = mI R L S := by
  have h2p : 2 ^ L ≤ 2 ^ 12 := Nat.pow_le_pow_right (by omega) hL12
  have hL : ∀ q ∈ R,setB q < 2 ^ L := fun q hq => setB_lt (hlt q hq)
  have hmem := parts_mem S S S (Nat.le_refl _) (Nat.and_self S)
  obtain ⟨b1,b2,b3⟩ := bestP_ge (mI R L) S F (partsF S S S) (wholeR R S)
  have hsub : ∀ p,andN S p &&& S = andN S p := fun p => Nat.eq_of_testBit_eq fun i => by
    rw [Nat.testBit_and,andN_bit _ _ _ (by omega)]
    cases S.testBit i <;> simp
  have hdis : ∀ p,p &&& andN S p = 0 := fun p => and_zero.2 fun x ⟨h1,h2⟩ => by
    rw [andN_bit _ _ _ (by omega),h1] at h2
    simp at h2
  refine Nat.le_antisymm (b3 _ ?_ ?_) ?_
  · unfold wholeR
    split
    · rename_i c
      obtain ⟨r,hr,e⟩ := List.any_eq_true.1 c
      rw [decide_eq_true_eq] at e
      exact mI_ring hne hlt hS hr fun x hx => by rw [← e,setB_bit]; simpa using hx
    · omega
  · intro p hp _ _
    obtain ⟨p1,p2,p3⟩ := (hmem p).1 hp
    exact mI_add hne hlt (by omega) (andN_lt S p L hS (by omega)) hS (hdis p) p2 (hsub p)
  · by_cases h0 : mI R L S = 0
    · omega
    · rcases mI_split hne hlt hL12 hS h0 with ⟨⟨r,hr,e⟩,h1⟩ | ⟨r,hr,hi,hn,hle⟩
      · have : wholeR R S = 1 := by
          unfold wholeR
          rw [if_pos (List.any_eq_true.2 ⟨r,hr,by simp [e]⟩)]
        omega
      · have hrS : setB r &&& S = setB r := Nat.eq_of_testBit_eq fun i => by
          rw [Nat.testBit_and,setB_bit]
          by_cases c : i ∈ r
          · rw [hi i c]; simp
          · simp [c]
        have hr0 : setB r ≠ 0 := fun h => by
          obtain ⟨x,hx⟩ := List.exists_mem_of_ne_nil r (hne r hr)
          have := setB_bit x r
          rw [h] at this
          simp [hx] at this
        have haa : andN S (andN S (setB r)) = setB r := Nat.eq_of_testBit_eq fun i => by
          have := congrArg (fun n => n.testBit i) hrS
          simp only [Nat.testBit_and] at this
          have hl := andN_lt S (setB r) L hS (by omega)
          rw [andN_bit _ _ _ (by omega),andN_bit _ _ _ (by omega)]
          cases h1 : S.testBit i <;> cases h2 : (setB r).testBit i <;> simp_all
        have hle2 : ∀ p,p &&& S = p → p ≤ S := fun p h => by rw [← h]; exact Nat.and_le_right
        by_cases c : setB r &&& F = 0
        · have hp0 : andN S (setB r) &&& F ≠ 0 := fun h => by
            apply hF0
            refine Nat.eq_of_testBit_eq fun i => ?_
            rw [Nat.zero_testBit]
            cases hi : F.testBit i
            · rfl
            · exfalso
              have h1 : S.testBit i = true := by
                have := congrArg (fun n => n.testBit i) hFS
                simp only [Nat.testBit_and,hi,Bool.true_and] at this
                exact this
              have h2 : ¬ (setB r).testBit i = true := fun hh => and_zero.1 c i ⟨hh,hi⟩
              refine and_zero.1 h i ⟨?_,hi⟩
              rw [andN_bit _ _ _ (by omega),h1]
              simpa using h2
          have hpn : andN S (setB r) ≠ 0 := fun h => hp0 (by rw [h,Nat.zero_and])
          have hpS : andN S (setB r) ≠ S := fun h => hr0 (by
            rw [h] at haa
            rw [← haa]
            refine Nat.eq_of_testBit_eq fun i => ?_
            rw [andN_bit _ _ _ (by omega),Nat.zero_testBit]; simp)
          have := b2 _ ((hmem _).2 ⟨hpn,hsub _,hle2 _ (hsub _)⟩) hp0 hpS
          rw [haa] at this
          omega
        · have := b2 _ ((hmem _).2 ⟨hr0,hrS,hle2 _ hrS⟩) c hn
          omega
end
end Go.Am.Ring
set_option linter.unusedVariables false
set_option linter.unusedSimpArgs false
namespace Go.Am.Ring
open Go.Am.G
def cand (P : List (Nat × Nat)) (own : List Nat) (a : Nat) : List Nat := own.filter fun i => decide (st P i = en P a)
def oneF (P : List (Nat × Nat)) (own : List Nat) : Nat → List Nat → Nat → Bool
  | 0,_,a => decide (a = own.headD 0)
  | k + 1,met,a => if a ∈ met then false else match cand P own a with
    | [x] => oneF P own k (met ++ [a]) x
    | _ => false
theorem cand_one {P : List (Nat × Nat)} {own : List Nat} {a x : Nat} (h : cand P own a = [x]) : x ∈ own ∧ st P x = en P a ∧ ∀ y ∈ own,st P y = en P a → y = x := by
  have hm : ∀ y,y ∈ cand P own a ↔ y ∈ own ∧ st P y = en P a := fun y => by simp [cand]
  have hx := (hm x).1 (by rw [h]; simp)
  refine ⟨hx.1,hx.2,fun y h1 h2 => ?_⟩
  have := (hm y).2 ⟨h1,h2⟩
  rw [h] at this
  exact List.mem_singleton.1 this
theorem oneF_walk (P : List (Nat × Nat)) (own : List Nat) : ∀ (k : Nat) (met : List Nat) (a : Nat),oneF P own k met a = true → a ∈ own → ∃ ws,ws.length = k ∧ (∀ x ∈ ws,x ∈ own ∧ x ∉ met) ∧ ws.Nodup ∧ Chain P ws ∧
    (k = 0 → a = own.headD 0) ∧ (k ≠ 0 → ws.headD 0 = a ∧ en P (ws.getLastD 0) = st P (own.headD 0)) ∧ (∀ x ∈ ws,∀ y ∈ own,∀ z ∈ own,st P y = en P x → st P z = en P x → y = z) ∧ (∀ y ∈ ws,y = a ∨ ∃ x ∈ ws,en P x = st P y) := by
  intro k
  induction k with
  | zero =>
    intro met a h ha
    rw [oneF,decide_eq_true_eq] at h
    exact ⟨[],rfl,by simp,List.nodup_nil,trivial,fun _ => h,fun hh => absurd rfl hh,by simp,by simp⟩
  | succ k ih =>
    intro met a h ha
    rw [oneF] at h
    by_cases c : a ∈ met
    · rw [if_pos c] at h; cases h
    · rw [if_neg c] at h
      match hc : cand P own a,h with
      | [x],h =>
        obtain ⟨x1,x2,x3⟩ := cand_one hc
        obtain ⟨ws,w1,w2,w3,w4,w5,w6,w7,w8⟩ := ih (met ++ [a]) x h x1
        refine ⟨a :: ws,by simp [w1],?_,?_,?_,fun hh => by omega,fun _ => ⟨rfl,?_⟩,?_,?_⟩
        · intro y hy
          rcases List.mem_cons.1 hy with rfl | hy
          · exact ⟨ha,c⟩
          · exact ⟨(w2 y hy).1,fun hm => (w2 y hy).2 (by simp [hm])⟩
        · exact List.nodup_cons.2 ⟨fun hm => (w2 a hm).2 (by simp),w3⟩
        · cases ws with
          | nil => trivial
          | cons b t =>
            have := (w6 (by simp at w1; omega)).1
            exact ⟨by rw [show b = x from this,x2],w4⟩
        · cases ws with
          | nil =>
            have := w5 (by simp at w1; omega)
            show en P a = _
            rw [← this,x2]
          | cons b t =>
            have := (w6 (by simp at w1; omega)).2
            rw [← this]
            simp [List.getLastD]
        · intro y hy
          rcases List.mem_cons.1 hy with rfl | hy
          · intro p hp q hq e1 e2; rw [x3 p hp e1,x3 q hq e2]
          · exact w7 y hy
        · intro y hy
          rcases List.mem_cons.1 hy with rfl | hy
          · exact .inl rfl
          · right
            rcases w8 y hy with rfl | ⟨z,hz,e⟩
            · exact ⟨a,by simp,x2.symm⟩
            · exact ⟨z,by simp [hz],e⟩
theorem sub_all {a b : List Nat} (hb : b.Nodup) (h : ∀ x ∈ a,x ∈ b) (ha : a.Nodup) (hl : b.length ≤ a.length) : ∀ x ∈ b,x ∈ a := by
  intro x hx
  by_cases c : x ∈ a
  · exact c
  · exfalso
    have h1 : (x :: a).Nodup := List.nodup_cons.2 ⟨c,ha⟩
    have h2 : ∀ y ∈ (x :: a),y ∈ b := fun y hy => by
      rcases List.mem_cons.1 hy with rfl | hy
      · exact hx
      · exact h y hy
    have := nodup_le _ _ h1 h2
    simp at this
    omega
theorem oneF_cyc {n : Nat} {P : List (Nat × Nat)} (G : Good n P) {own : List Nat} (hnd : own.Nodup) (hlt : ∀ x ∈ own,x < P.length) (hne : own ≠ []) (h : oneF P own own.length [] (own.headD 0) = true) : ∃ r ∈ allR P,∀ x,x ∈ r ↔ x ∈ own := by
  have hh : own.headD 0 ∈ own := by
    cases own with
    | nil => exact absurd rfl hne
    | cons a t => simp
  have hl0 : own.length ≠ 0 := fun e => hne (List.length_eq_zero_iff.1 e)
  obtain ⟨ws,w1,w2,w3,w4,w5,w6,w7,w8⟩ := oneF_walk P own own.length [] (own.headD 0) h hh
  obtain ⟨g1,g2⟩ := w6 hl0
  have hall := sub_all hnd (fun x hx => (w2 x hx).1) w3 (by omega)
  have hwne : ws ≠ [] := fun e => by rw [e] at w1; simp at w1; omega
  have hlast : ws.getLastD 0 ∈ ws := by
    rw [List.getLastD_eq_getLast?,List.getLast?_eq_some_getLast hwne]
    exact List.getLast_mem hwne
  have hpre : ∀ y ∈ ws,∃ x ∈ ws,en P x = st P y := fun y hy => by
    rcases w8 y hy with rfl | h
    · exact ⟨_,hlast,g2⟩
    · exact h
  have C : Cyc P ws := ⟨hwne,fun k hk => hlt k (w2 k hk).1,by
    rw [List.Nodup,List.pairwise_map]
    refine List.Pairwise.imp_of_mem ?_ w3
    intro y z hy hz hne e
    obtain ⟨x,hx,ex⟩ := hpre y hy
    exact hne (w7 x hx y (w2 y hy).1 z (w2 z hz).1 ex.symm (e ▸ ex.symm)),w4,by rw [g1]; exact g2⟩
  obtain ⟨o,ho,hm⟩ := cyc_rot G C
  exact ⟨o,ho,fun x => (hm x).trans ⟨fun h => (w2 x h).1,hall x⟩⟩
theorem filter_single {α : Type} (p : α → Bool) {x : α} : ∀ {l : List α},l.Nodup → x ∈ l → p x = true → (∀ y ∈ l,p y = true → y = x) → l.filter p = [x]
  | [],_,hx,_,_ => by simp at hx
  | a :: l,hnd,hx,hp,hu => by
    rw [List.nodup_cons] at hnd
    by_cases c : a = x
    · subst c
      rw [List.filter_cons_of_pos hp]
      have : l.filter p = [] := List.filter_eq_nil_iff.2 fun y hy hpy => hnd.1 (hu y (by simp [hy]) hpy ▸ hy)
      rw [this]
    · have hx' : x ∈ l := by
        rcases List.mem_cons.1 hx with e | e
        · exact absurd e.symm c
        · exact e
      rw [List.filter_cons_of_neg (fun h => c (hu a (by simp) h))]
      exact filter_single p hnd.2 hx' hp fun y hy => hu y (by simp [hy])
theorem map_inj_of {f : Nat → Nat} {l : List Nat} (h : (l.map f).Nodup) {x y : Nat} (hx : x ∈ l) (hy : y ∈ l) (e : f x = f y) : x = y := by
  induction l with
  | nil => simp at hx
  | cons a l ih =>
    rw [List.map_cons,List.nodup_cons] at h
    rcases List.mem_cons.1 hx with e1 | h1 <;> rcases List.mem_cons.1 hy with e2 | h2
    · rw [e1,e2]
    · exact absurd (List.mem_map.2 ⟨y,h2,by rw [← e,e1]⟩) h.1
    · exact absurd (List.mem_map.2 ⟨x,h1,by rw [e,e2]⟩) h.1
    · exact ih h.2 h1 h2
theorem cyc_oneF {n : Nat} {P : List (Nat × Nat)} (G : Good n P) {own r : List Nat} (hnd : own.Nodup) (C : Cyc P r) (hm : ∀ x,x ∈ r ↔ x ∈ own) (hh : r.headD 0 = own.headD 0) : ∀ (B A : List Nat) (x : Nat),A ++ x :: B = r → oneF P own (B.length + 1) A x = true
  | B,A,x,e => by
    have hrn : r.Nodup := (List.pairwise_map.1 C.nd).imp fun h e => h (congrArg _ e)
    have hx : x ∉ A := by
      rw [← e,List.nodup_append] at hrn
      exact fun h => hrn.2.2 x h x (by simp) rfl
    have one : ∀ z ∈ r,st P z = en P x → cand P own x = [z] := fun z hz ez => by
      refine filter_single _ hnd ((hm z).1 hz) (by simp [ez]) fun y hy hp => ?_
      rw [decide_eq_true_eq] at hp
      exact map_inj_of C.nd ((hm y).2 hy) hz (hp.trans ez.symm)
    rw [oneF,if_neg hx]
    cases B with
    | nil =>
      have hl : r.getLastD 0 = x := by rw [← e,lastD_app _ _ (by simp)]; rfl
      have hz : r.headD 0 ∈ r := by
        cases r with
        | nil => exact absurd rfl C.ne
        | cons a t => simp
      rw [one _ hz (by rw [← C.cl,hl])]
      simp only [List.length_nil,oneF]
      rw [decide_eq_true_eq,hh]
    | cons z B =>
      have hch := C.ch
      rw [← e,chain_append] at hch
      have hz : z ∈ r := by rw [← e]; simp
      rw [one z hz hch.2.1.1.symm]
      exact cyc_oneF G hnd C hm hh B (A ++ [x]) z (by rw [← e]; simp)
theorem oneF_iff {n : Nat} {P : List (Nat × Nat)} (G : Good n P) {own : List Nat} (hasc : own.Pairwise (· < ·)) (hlt : ∀ x ∈ own,x < P.length) (hne : own ≠ []) : oneF P own own.length [] (own.headD 0) = (allR P).any fun r => decide (∀ x ∈ own,x ∈ r) && decide (∀ x ∈ r,x ∈ own) := by
  have hnd : own.Nodup := List.Pairwise.imp (fun h => Nat.ne_of_lt h) hasc
  rw [Bool.eq_iff_iff]
  constructor
  · intro h
    obtain ⟨r,hr,hm⟩ := oneF_cyc G hnd hlt hne h
    refine List.any_eq_true.2 ⟨r,hr,?_⟩
    simp only [Bool.and_eq_true,decide_eq_true_eq]
    exact ⟨fun x hx => (hm x).2 hx,fun x hx => (hm x).1 hx⟩
  · intro h
    obtain ⟨r,hr,hm⟩ := List.any_eq_true.1 h
    simp only [Bool.and_eq_true,decide_eq_true_eq] at hm
    obtain ⟨C,hmin⟩ := (allR_mem G r).1 hr
    have hm' : ∀ x,x ∈ r ↔ x ∈ own := fun x => ⟨hm.2 x,hm.1 x⟩
    have hrn : r.Nodup := (List.pairwise_map.1 C.nd).imp fun h e => h (congrArg _ e)
    have hlen : r.length = own.length := Nat.le_antisymm (nodup_le _ _ hrn hm.2) (nodup_le _ _ hnd hm.1)
    have hh : r.headD 0 = own.headD 0 := by
      cases hr : r with
      | nil => exact absurd hr C.ne
      | cons a t =>
        cases ho : own with
        | nil => exact absurd ho hne
        | cons b s =>
          have h1 : b ∈ r := (hm' b).2 (by rw [ho]; simp)
          have h2 : a ∈ own := (hm' a).1 (by rw [hr]; simp)
          rw [hr] at h1 hmin
          rw [ho] at h2 hasc
          rw [List.pairwise_cons] at hasc
          have g1 : a ≤ b := by
            rcases List.mem_cons.1 h1 with e | e
            · omega
            · exact Nat.le_of_lt (hmin b e)
          have g2 : b ≤ a := by
            rcases List.mem_cons.1 h2 with e | e
            · omega
            · exact Nat.le_of_lt (hasc.1 a e)
          show a = b
          omega
    cases hr : r with
    | nil => exact absurd hr C.ne
    | cons a t =>
      have := cyc_oneF G hnd C hm' hh t [] a (by rw [hr]; rfl)
      rw [← hlen,← hh,hr]
      exact this
theorem oneF_num {n : Nat} {P : List (Nat × Nat)} (G : Good n P) {S : Nat} (hS : S < 2 ^ P.length) (h0 : S ≠ 0) : oneF P (numL S) (numL S).length [] ((numL S).headD 0) = (allR P).any fun r => decide (setB r = S) := by
  have h12 := G.le12
  have hlt : ∀ x ∈ numL S,x < P.length := fun x hx => by
    have := (numL_mem.1 hx).2
    by_cases c : x < P.length
    · exact c
    · rw [Nat.testBit_lt_two_pow (Nat.lt_of_lt_of_le hS (Nat.pow_le_pow_right (by omega) (by omega)))] at this
      cases this
  have hne : numL S ≠ [] := fun h => h0 (Nat.eq_of_testBit_eq fun i => by
    rw [Nat.zero_testBit]
    by_cases c : i < P.length
    · have : i ∉ numL S := by rw [h]; simp
      rw [numL_mem] at this
      cases e : S.testBit i
      · rfl
      · exact absurd ⟨by omega,e⟩ this
    · exact Nat.testBit_lt_two_pow (Nat.lt_of_lt_of_le hS (Nat.pow_le_pow_right (by omega) (by omega))))
  have hasc : (numL S).Pairwise (· < ·) := List.Pairwise.filter _ (List.pairwise_lt_range)
  rw [oneF_iff G hasc hlt hne]
  rw [Bool.eq_iff_iff,List.any_eq_true,List.any_eq_true]
  refine exists_congr fun r => and_congr_right fun hr => ?_
  have hrl : ∀ x ∈ r,x < 12 := fun x hx => by
    have := ((allR_mem G r).1 hr).1.lt x hx
    omega
  simp only [Bool.and_eq_true,decide_eq_true_eq]
  constructor
  · rintro ⟨h1,h2⟩
    refine Nat.eq_of_testBit_eq fun i => ?_
    rw [setB_bit]
    cases e : S.testBit i
    · simp only [decide_eq_false_iff_not]
      intro hi
      have := (numL_mem.1 (h2 i hi)).2
      rw [e] at this; cases this
    · simp only [decide_eq_true_eq]
      refine h1 i (numL_mem.2 ⟨?_,e⟩)
      by_cases c : i < 12
      · exact c
      · rw [Nat.testBit_lt_two_pow (Nat.lt_of_lt_of_le hS (Nat.pow_le_pow_right (by omega) (by omega)))] at e
        cases e
  · intro e
    refine ⟨fun x hx => ?_,fun x hx => numL_mem.2 ⟨hrl x hx,?_⟩⟩
    · have := (numL_mem.1 hx).2
      rw [← e,setB_bit] at this
      simpa using this
    · rw [← e,setB_bit]; simpa using hx
end Go.Am.Ring
set_option linter.unusedVariables false
set_option linter.unusedSimpArgs false
set_option maxRecDepth 10000
set_option maxHeartbeats 1000000
namespace Go.Am.Ring
open Go.Am.G
def inn (P : List (Nat × Nat)) (a : Nat) : List Nat → Option Nat → Option (Option Nat)
  | [],nx => some nx
  | i :: t,nx => if st P i = en P a then (if nx.isSome = true then none else inn P a t (some i)) else inn P a t nx
def nxI (nx : Option Nat) : Int := match nx with
  | none => -1
  | some x => (x : Int)
theorem inn_some (P : List (Nat × Nat)) (a y : Nat) : ∀ l,inn P a l (some y) = if cand P l a = [] then some (some y) else none
  | [] => rfl
  | i :: t => by
    rw [inn]
    by_cases c : st P i = en P a
    · rw [if_pos c,if_pos (show (some y).isSome = true from rfl),if_neg (by simp [cand,c])]
    · rw [if_neg c,inn_some P a y t]
      have : cand P (i :: t) a = cand P t a := by simp [cand,c]
      rw [this]
theorem inn_none (P : List (Nat × Nat)) (a : Nat) : ∀ l,inn P a l none = match cand P l a with
    | [] => some none
    | [x] => some (some x)
    | _ => none
  | [] => rfl
  | i :: t => by
    rw [inn]
    by_cases c : st P i = en P a
    · have : cand P (i :: t) a = i :: cand P t a := by simp [cand,c]
      rw [if_pos c,if_neg (by simp),inn_some,this]
      cases cand P t a with
      | nil => rfl
      | cons x s => rfl
    · rw [if_neg c,inn_none P a t]
      have : cand P (i :: t) a = cand P t a := by simp [cand,c]
      rw [this]
theorem inner_loop {n0 : Nat} {P : List (Nat × Nat)} (G : Good n0 P) (nl ex nl' ex' : Bool) (sz : Nat) (R : List Nat) (hR : ∀ k ∈ R,k < P.length) (hRl : R.length < 1000) (X5 X14 X15 : LV) (a : Nat) (ha : a < P.length) (M : LMem) (j : Nat) : ∀ (k : Nat) (nx : Option Nat),k + j = R.length →
    exF LP law04_oneRing.L0 [(0,FN nl ex sz P),(1,IL nl' ex' 1 (ci R)),(5,X5),(6,.int .i64 (a : Int)),(7,.int .i64 (nxI nx)),(14,X14),(15,X15),(24,IL nl' ex' 1 (ci R)),(25,.int .i64 (R.length : Int)),(26,.int .i64 (k : Int))] M =
      match inn P a (R.drop k) nx with
      | some v => some (.exit 2,[(0,FN nl ex sz P),(1,IL nl' ex' 1 (ci R)),(5,X5),(7,.int .i64 (nxI v)),(14,X14),(15,X15)],M)
      | none => some (.ret,[(4,.bool false)],M) := by
  have h12 := G.le12
  have hcl := ci_len R
  induction j with
  | zero =>
    intro k nx hk
    rw [List.drop_eq_nil_of_le (by omega),inn,law04_oneRing.L0_eq]
    simp only [IL,hcl]
    generalize (ci R).map (LV.int .i64) = row at *
    simp only [law04_oneRing.B0,exF_seq,exF_region,exF_cond,exF_exit,runL,wantL,stepL,evL,LEnv.at,putL,loadFine,LEnv.keep,List.map_cons,List.map_nil,nbeq,bin_lss,Nat.reduceEqDiff,decide_true,decide_false,cond_true,cond_false,reduceCtorEq,eq_self,show ¬ ((k : Int) < (R.length : Int)) by omega]
  | succ j ih =>
    intro k nx hk
    have h2 : k < R.length := by omega
    have hkk : (k : Int) < (R.length : Int) := by omega
    have hw := wrap_succ (show k + 1 < 9223372036854775808 by omega)
    have hRk := hR _ (List.getElem_mem h2)
    have hat : (ci R).map (LV.int .i64) = R.map fun y : Nat => LV.int .i64 (y : Int) := by simp
    have b0 := nat_at .i64 R k h2
    rw [← hat] at b0
    have sS := pcS P _ hRk
    have sE := pcE P _ ha
    rw [List.drop_eq_getElem_cons h2,inn]
    have ih := fun nx => ih (k + 1) nx (by omega)
    simp only [FN_eq] at ih ⊢
    simp only [IL,hcl] at ih ⊢
    generalize (ci R).map (LV.int .i64) = row at *
    by_cases c : st P R[k] = en P a
    · have c' : ((st P R[k] : Nat) : Int) = ((en P a : Nat) : Int) := by omega
      rw [if_pos c]
      cases nx with
      | some y =>
        have g : (0 : Int) ≤ (y : Int) := by omega
        rw [if_pos (show (some y).isSome = true from rfl),law04_oneRing.L0_eq]
        simp only [law04_oneRing.B0,law04_oneRing.B0.R0,exF_seq,exF_region,exF_block,exF_cond,exF_ret,exF_skip,runL,wantL,stepL,evL,evC,LEnv.at,putL,loadFine,loadL,cellsAt,Trk.putNew,Trk.up,Trk.touch,Trk.gives,Trk.calm,opdsOf,Trk.fresh,LEnv.keep,List.map_cons,List.map_nil,nbeq,nble,nblt,bin_eql,bin_lss,bin_geq,natL_nat,natL_zero,natL_one,List.any_cons,List.any_nil,Bool.or_false,Bool.or_true,Bool.and_true,Bool.false_and,Bool.not_true,Bool.not_false,Nat.reduceEqDiff,decide_true,decide_false,cond_true,cond_false,List.filter_nil,Nat.reduceAdd,Nat.reduceLeDiff,reduceCtorEq,Nat.mul_one,eq_self,Nat.le_refl,Nat.lt_add_one,Nat.reduceLT,Nat.add_zero,hkk,h2,b0,hRk,ha,sS,sE,c',nxI,g]
      | none =>
        have ih := ih (some R[k])
        rw [if_neg (by simp),← ih,law04_oneRing.L0_eq]
        have g : ¬ (0 : Int) ≤ -1 := by omega
        simp only [law04_oneRing.B0,law04_oneRing.B0.R0,exF_seq,exF_region,exF_block,exF_cond,exF_skip,runL,wantL,stepL,evL,evC,LEnv.at,putL,loadFine,loadL,cellsAt,Trk.putNew,Trk.up,Trk.touch,Trk.gives,Trk.calm,opdsOf,Trk.fresh,LEnv.keep,List.map_cons,List.map_nil,nbeq,nble,nblt,bin_add,bin_eql,bin_lss,bin_geq,natL_nat,natL_zero,natL_one,List.any_cons,List.any_nil,Bool.or_false,Bool.or_true,Bool.and_true,Bool.false_and,Bool.not_true,Bool.not_false,Nat.reduceEqDiff,decide_true,decide_false,cond_true,cond_false,List.filter_nil,Nat.reduceAdd,Nat.reduceLeDiff,reduceCtorEq,Nat.mul_one,eq_self,Nat.le_refl,Nat.lt_add_one,Nat.reduceLT,Nat.add_zero,hkk,h2,b0,hRk,ha,sS,sE,c',nxI,g,hw]
    · have c' : ¬ ((st P R[k] : Nat) : Int) = ((en P a : Nat) : Int) := by omega
      rw [if_neg c,← ih nx,law04_oneRing.L0_eq]
      simp only [law04_oneRing.B0,law04_oneRing.B0.R0,exF_seq,exF_region,exF_block,exF_cond,exF_skip,runL,wantL,stepL,evL,evC,LEnv.at,putL,loadFine,loadL,cellsAt,Trk.putNew,Trk.up,Trk.touch,Trk.gives,Trk.calm,opdsOf,Trk.fresh,LEnv.keep,List.map_cons,List.map_nil,nbeq,nble,nblt,bin_add,bin_eql,bin_lss,natL_nat,natL_zero,natL_one,List.any_cons,List.any_nil,Bool.or_false,Bool.or_true,Bool.and_true,Bool.false_and,Bool.not_true,Bool.not_false,Nat.reduceEqDiff,decide_true,decide_false,cond_true,cond_false,List.filter_nil,Nat.reduceAdd,Nat.reduceLeDiff,reduceCtorEq,Nat.mul_one,eq_self,Nat.le_refl,Nat.lt_add_one,Nat.reduceLT,Nat.add_zero,hkk,h2,b0,hRk,ha,sS,sE,c',hw]
def oneW (P : List (Nat × Nat)) (own : List Nat) : Nat → List Nat → Nat → Option Nat
  | 0,_,a => some a
  | k + 1,met,a => if a ∈ met then none else match cand P own a with
    | [x] => oneW P own k (met ++ [a]) x
    | _ => none
theorem oneW_F (P : List (Nat × Nat)) (own : List Nat) : ∀ (k : Nat) (met : List Nat) (a : Nat),oneF P own k met a = match oneW P own k met a with
    | some y => decide (y = own.headD 0)
    | none => false
  | 0,met,a => rfl
  | k + 1,met,a => by
    rw [oneF,oneW]
    by_cases c : a ∈ met
    · rw [if_pos c,if_pos c]
    · rw [if_neg c,if_neg c]
      match cand P own a with
      | [] => rfl
      | [x] => exact oneW_F P own k _ x
      | x :: y :: s => rfl
theorem outer_loop {n0 : Nat} {P : List (Nat × Nat)} (G : Good n0 P) (nl ex nl' ex' : Bool) (sz : Nat) (R : List Nat) (hR : ∀ k ∈ R,k < P.length) (hRl : R.length < 1000) (j : Nat) : ∀ (k : Nat) (met : List Nat) (a : Nat) (M : LMem) (b : Nat),k + j = R.length → met.length = k → a < P.length → (ci met ≠ [] → M[b]? = some ⟨ints (ci met),true⟩) →
    ∃ M',exF LP law04_oneRing.L1 [(0,FN nl ex sz P),(1,IL nl' ex' 1 (ci R)),(5,GV b (ci met)),(6,.int .i64 (a : Int)),(14,.int .i64 (R.length : Int)),(15,.int .i64 (k : Int))] M =
      match oneW P R j met a with
      | some y => some (.exit 0,[(1,IL nl' ex' 1 (ci R)),(6,.int .i64 (y : Int))],M')
      | none => some (.ret,[(4,.bool false)],M') := by
  have h12 := G.le12
  have hcl := ci_len R
  induction j with
  | zero =>
    intro k met a M b hk hm ha hb
    refine ⟨M,?_⟩
    rw [law04_oneRing.L1_eq,oneW]
    simp only [IL,hcl]
    generalize (ci R).map (LV.int .i64) = row at *
    simp only [law04_oneRing.B1,exF_seq,exF_region,exF_cond,exF_exit,runL,wantL,stepL,evL,LEnv.at,putL,loadFine,LEnv.keep,List.map_cons,List.map_nil,nbeq,bin_lss,Nat.reduceEqDiff,decide_true,decide_false,cond_true,cond_false,reduceCtorEq,eq_self,show ¬ ((k : Int) < (R.length : Int)) by omega]
  | succ j ih =>
    intro k met a M b hk hm ha hb
    have hkk : (k : Int) < (R.length : Int) := by omega
    have hw := wrap_succ (show k + 1 < 9223372036854775808 by omega)
    have hml : (ci met).length < 1000000 := by rw [ci_len]; omega
    have hcon := contains_m M b (ci met) (a : Int) hml hb
    have hmem := ci_mem met a
    have hap := app_gv M b (ci met) (a : Int) true hml hb
    have hsn : ci (met ++ [a]) = ci met ++ [(a : Int)] := by simp
    rw [← hsn] at hap
    rw [oneW]
    by_cases c : a ∈ met
    · refine ⟨M,?_⟩
      rw [decide_eq_true (hmem.2 c)] at hcon
      rw [if_pos c,law04_oneRing.L1_eq]
      generalize GV b (ci met) = v1 at *
      simp only [FN_eq]
      simp only [IL,hcl]
      generalize (ci R).map (LV.int .i64) = row at *
      simp only [law04_oneRing.B1,exF_seq,exF_region,exF_block,exF_cond,exF_ret,exF_skip,runL,wantL,stepL,evL,evC,LEnv.at,putL,loadFine,LEnv.keep,List.map_cons,List.map_nil,nbeq,ofAVs,bin_lss,Nat.reduceEqDiff,decide_true,decide_false,cond_true,cond_false,reduceCtorEq,eq_self,List.append_nil,List.nil_append,hkk,hcon]
    · rw [decide_eq_false (fun h => c (hmem.1 h))] at hcon
      rw [if_neg c]
      have hl := fun X5 X14 X15 M => inner_loop G nl ex nl' ex' sz R hR hRl X5 X14 X15 a ha M R.length 0 none (by omega)
      simp only [List.drop_zero,inn_none,nxI,Int.natCast_zero] at hl
      have hb2 : ci (met ++ [a]) ≠ [] → (if ci met = [] then M ++ [(⟨ints (ci (met ++ [a])),true⟩ : LBlk)] else M.set b ⟨ints (ci (met ++ [a])),true⟩)[if ci met = [] then M.length else b]? = some ⟨ints (ci (met ++ [a])),true⟩ := fun _ => by
        by_cases c : ci met = []
        · rw [if_pos c,if_pos c]; exact get_last _ _
        · rw [if_neg c,if_neg c,List.getElem?_set_self (get_lt (hb c))]
      have ih := fun x hx => ih (k + 1) (met ++ [a]) x (if ci met = [] then M ++ [(⟨ints (ci (met ++ [a])),true⟩ : LBlk)] else M.set b ⟨ints (ci (met ++ [a])),true⟩) (if ci met = [] then M.length else b) (by omega) (by simp [hm]) hx hb2
      generalize (if ci met = [] then M ++ [(⟨ints (ci (met ++ [a])),true⟩ : LBlk)] else M.set b ⟨ints (ci (met ++ [a])),true⟩) = M2 at *
      generalize GV (if ci met = [] then M.length else b) (ci (met ++ [a])) = v2 at *
      generalize GV b (ci met) = v1 at *
      match hc : cand P R a with
      | [] =>
        simp only [hc] at hl
        refine ⟨M2,?_⟩
        rw [law04_oneRing.L1_eq]
        simp only [FN_eq] at hl ⊢
        simp only [IL,hcl] at hl ⊢
        generalize (ci R).map (LV.int .i64) = row at *
        simp only [law04_oneRing.B1,exF_seq,exF_region,exF_block,exF_cond,exF_ret,exF_skip,runL,wantL,stepL,evL,evC,LEnv.at,putL,loadFine,LEnv.keep,List.map_cons,List.map_nil,nbeq,nble,ofAV,ofAVs,lenL,bin_lss,Bool.or_false,Bool.and_true,Nat.reduceEqDiff,decide_true,decide_false,cond_true,cond_false,Nat.reduceAdd,reduceCtorEq,List.length_nil,List.length_cons,Nat.mul_one,eq_self,List.append_nil,List.nil_append,views_pures,LV.pures,LV.pure,freeze,Nat.reduceDiv,LV.cells,spliceL,List.take_zero,List.take_succ_cons,List.drop_succ_cons,List.drop_nil,List.take_nil,Nat.le_refl,fillL,hkk,hcon,hap,hl,show (-1 : Int) < 0 by omega]
      | [x] =>
        simp only [hc] at hl
        have hx := hR x (cand_one hc).1
        obtain ⟨M',ih⟩ := ih x hx
        refine ⟨M',?_⟩
        rw [← ih,law04_oneRing.L1_eq]
        simp only [FN_eq] at hl ⊢
        simp only [IL,hcl] at hl ⊢
        generalize (ci R).map (LV.int .i64) = row at *
        simp only [law04_oneRing.B1,exF_seq,exF_region,exF_block,exF_cond,exF_skip,runL,wantL,stepL,evL,evC,LEnv.at,putL,loadFine,LEnv.keep,List.map_cons,List.map_nil,nbeq,nble,ofAV,ofAVs,lenL,bin_add,bin_lss,Bool.or_false,Bool.and_true,Nat.reduceEqDiff,decide_true,decide_false,cond_true,cond_false,Nat.reduceAdd,reduceCtorEq,List.length_nil,List.length_cons,Nat.mul_one,eq_self,List.append_nil,List.nil_append,views_pures,LV.pures,LV.pure,freeze,Nat.reduceDiv,LV.cells,spliceL,List.take_zero,List.take_succ_cons,List.drop_succ_cons,List.drop_nil,List.take_nil,Nat.le_refl,fillL,hkk,hcon,hap,hl,show ¬ (x : Int) < 0 by omega,hw]
      | x :: y :: s =>
        simp only [hc] at hl
        refine ⟨M2,?_⟩
        rw [law04_oneRing.L1_eq]
        simp only [FN_eq] at hl ⊢
        simp only [IL,hcl] at hl ⊢
        generalize (ci R).map (LV.int .i64) = row at *
        simp only [law04_oneRing.B1,exF_seq,exF_region,exF_block,exF_cond,exF_skip,runL,wantL,stepL,evL,evC,LEnv.at,putL,loadFine,LEnv.keep,List.map_cons,List.map_nil,nbeq,nble,ofAV,ofAVs,lenL,bin_lss,Bool.or_false,Bool.and_true,Nat.reduceEqDiff,decide_true,decide_false,cond_true,cond_false,Nat.reduceAdd,reduceCtorEq,List.length_nil,List.length_cons,Nat.mul_one,eq_self,List.append_nil,List.nil_append,views_pures,LV.pures,LV.pure,freeze,Nat.reduceDiv,LV.cells,spliceL,List.take_zero,List.take_succ_cons,List.drop_succ_cons,List.drop_nil,List.take_nil,Nat.le_refl,fillL,hkk,hcon,hap,hl]
theorem oneRing_c {n : Nat} {P : List (Nat × Nat)} (G : Good n P) (nl ex nl' ex' : Bool) (sz : Nat) (R : List Nat) (hR : ∀ k ∈ R,k < P.length) (hRl : R.length < 1000) (hne : R ≠ []) (m : LMem) : clF LP n_law04_oneRing [FN nl ex sz P,IL nl' ex' 1 (ci R)] m = some (.P,.bool (oneF P R R.length [] (R.headD 0)),m) := by
  have hpu : LV.pures [FN nl ex sz P,IL nl' ex' 1 (ci R)] = true := by simp [LV.pures,LV.pure]
  have hcl := ci_len R
  obtain ⟨a,t,rfl⟩ := List.exists_cons_of_ne_nil hne
  have ha := hR a (by simp)
  obtain ⟨M',h1⟩ := outer_loop G nl ex nl' ex' sz (a :: t) hR hRl (a :: t).length 0 [] a [] 0 (by omega) rfl ha (fun h => absurd rfl h)
  have hgv : GV 0 (ci []) = .lst true true 0 0 [] := rfl
  rw [hgv] at h1
  have hat0 : ((ci (a :: t)).map (LV.int .i64))[0]? = some (.int .i64 (a : Int)) := rfl
  have hpos : 0 < (a :: t).length := by simp
  rw [oneW_F]
  simp only [List.headD_cons,Int.natCast_zero] at h1 ⊢
  refine call_P lp_law04_oneRing rfl hpu (m1 := M') ?_ rfl m
  cases hw : oneW P (a :: t) (a :: t).length [] a with
  | none =>
    rw [hw] at h1
    simp only [FN_eq] at h1 ⊢
    simp only [IL,hcl] at h1 ⊢
    generalize (ci (a :: t)).map (LV.int .i64) = row at *
    generalize (a :: t).length = L at *
    simp only [law04_oneRing,law04_oneRing.B,exF_seq,exF_region,exF_block,runL,wantL,stepL,evL,evC,LEnv.at,putL,loadFine,loadL,cellsAt,Trk.putNew,Trk.up,Trk.touch,Trk.gives,Trk.calm,opdsOf,Trk.fresh,LEnv.keep,LEnv.ofFrom,List.map_cons,List.map_nil,nbeq,nble,nblt,lenL,natL_zero,List.any_cons,List.any_nil,Bool.or_false,Bool.or_true,Bool.and_true,Bool.false_and,Bool.not_true,Bool.not_false,Nat.reduceEqDiff,decide_true,decide_false,cond_true,cond_false,List.filter_nil,Nat.reduceAdd,Nat.reduceLeDiff,reduceCtorEq,List.length_nil,Nat.mul_one,eq_self,retL,resultsL,resAllL,resOfL,List.drop_zero,hpos,hat0,h1]
  | some y =>
    rw [hw] at h1
    simp only [FN_eq] at h1 ⊢
    simp only [IL,hcl] at h1 ⊢
    generalize (ci (a :: t)).map (LV.int .i64) = row at *
    generalize (a :: t).length = L at *
    have e : ((y : Int) = (a : Int)) ↔ y = a := by omega
    by_cases c : y = a
    · have c' := e.2 c
      simp only [law04_oneRing,law04_oneRing.B,exF_seq,exF_region,exF_block,exF_ret,runL,wantL,stepL,evL,evC,LEnv.at,putL,loadFine,loadL,cellsAt,Trk.putNew,Trk.up,Trk.touch,Trk.gives,Trk.calm,opdsOf,Trk.fresh,LEnv.keep,LEnv.ofFrom,List.map_cons,List.map_nil,nbeq,nble,nblt,lenL,bin_eql,natL_zero,List.any_cons,List.any_nil,Bool.or_false,Bool.or_true,Bool.and_true,Bool.false_and,Bool.not_true,Bool.not_false,Nat.reduceEqDiff,decide_true,decide_false,cond_true,cond_false,List.filter_nil,Nat.reduceAdd,Nat.reduceLeDiff,reduceCtorEq,List.length_nil,Nat.mul_one,eq_self,retL,resultsL,resAllL,resOfL,List.drop_zero,hpos,hat0,h1,c]
    · have c' := fun h => c (e.1 h)
      simp only [law04_oneRing,law04_oneRing.B,exF_seq,exF_region,exF_block,exF_ret,runL,wantL,stepL,evL,evC,LEnv.at,putL,loadFine,loadL,cellsAt,Trk.putNew,Trk.up,Trk.touch,Trk.gives,Trk.calm,opdsOf,Trk.fresh,LEnv.keep,LEnv.ofFrom,List.map_cons,List.map_nil,nbeq,nble,nblt,lenL,bin_eql,natL_zero,List.any_cons,List.any_nil,Bool.or_false,Bool.or_true,Bool.and_true,Bool.false_and,Bool.not_true,Bool.not_false,Nat.reduceEqDiff,decide_true,decide_false,cond_true,cond_false,List.filter_nil,Nat.reduceAdd,Nat.reduceLeDiff,reduceCtorEq,List.length_nil,Nat.mul_one,eq_self,retL,resultsL,resAllL,resOfL,List.drop_zero,hpos,hat0,h1,c,decide_false,decide_eq_false c']
end Go.Am.Ring
