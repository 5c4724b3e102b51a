import Derived.Test.YtheppipmnfjdcaaDoorRdE1
import Derived.Test.YtheppipmnfjdcaaDoorRdP10
import Derived.Test.YtheppipmnfjdcaaDoorRdD1
import Derived.Test.YtheppipmnfjdcaaDoorRdC14
import Derived.Test.YtheppipmnfjdcaaDoorRdD3
set_option linter.unusedVariables false
set_option linter.unusedSimpArgs false
set_option maxRecDepth 10000
namespace Go.Am.Ring
open Go.Am.G
theorem cmpL_trans : ∀ (x y z : List Nat),cmpL x y < 0 → cmpL y z < 0 → cmpL x z < 0
  | [],[],z,h,_ => by simp [cmpL] at h
  | [],b :: y,[],_,h => by simp [cmpL] at h
  | [],b :: y,c :: z,_,_ => by simp [cmpL]
  | a :: x,[],z,h,_ => by simp [cmpL] at h
  | a :: x,b :: y,[],_,h => by simp [cmpL] at h
  | a :: x, b :: y,c :: z,h1,h2 => by
    rw [cmpL] at h1 h2 ⊢
    by_cases c1 : a < b
    · by_cases c2 : b < c
      · rw [if_pos (by omega)]; omega
      · rw [if_neg c2] at h2
        by_cases c3 : c < b
        · rw [if_pos c3] at h2; omega
        · rw [if_pos (by omega)]; omega
    · rw [if_neg c1] at h1
      by_cases c4 : b < a
      · rw [if_pos c4] at h1; omega
      · rw [if_neg c4] at h1
        obtain rfl : a = b := by omega
        by_cases c2 : a < c
        · rw [if_pos c2]; omega
        · rw [if_neg c2] at h2 ⊢
          by_cases c3 : c < a
          · rw [if_pos c3] at h2; omega
          · rw [if_neg c3] at h2 ⊢
            exact cmpL_trans x y z h1 h2
theorem cmpL_eq : ∀ (x y : List Nat),¬ cmpL x y < 0 → ¬ cmpL y x < 0 → x = y
  | [],[],_,_ => rfl
  | [],b :: y,h,_ => by simp [cmpL] at h
  | a :: x,[],_,h => by simp [cmpL] at h
  | a :: x,b :: y,h1,h2 => by
    rw [cmpL] at h1 h2
    by_cases c1 : a < b
    · rw [if_pos c1] at h1; omega
    · by_cases c2 : b < a
      · rw [if_pos c2] at h2; omega
      · rw [if_neg c1,if_neg c2] at h1
        rw [if_neg c2,if_neg c1] at h2
        rw [show a = b by omega,cmpL_eq x y h1 h2]
def btr (x y : List Nat) : Bool := decide (x.length < y.length) || (decide (x.length = y.length) && decide (cmpL x y < 0))
theorem btr_trans {x y z : List Nat} (h1 : btr x y = true) (h2 : btr y z = true) : btr x z = true := by
  simp only [btr,Bool.or_eq_true,Bool.and_eq_true,decide_eq_true_eq] at *
  rcases h1 with h1 | ⟨h1,g1⟩
  · left; omega
  · rcases h2 with h2 | ⟨h2,g2⟩
    · left; omega
    · exact .inr ⟨by omega,cmpL_trans x y z g1 g2⟩
theorem btr_self (x : List Nat) : btr x x = false := by simp [btr,cmpL_self]
def bstS (s : Option (List Nat)) (x : List Nat) : Option (List Nat) := match s with
  | none => some x
  | some y => if btr x y = true then some x else some y
theorem bst_fold (ok : Nat → Bool) (g : Nat → List Nat) (N : Nat) : (∀ b,(List.range N).foldl (fun s S => if ok S = true then bstS s (g S) else s) none = some b → (∃ S,S < N ∧ ok S = true ∧ b = g S) ∧ ∀ S,S < N → ok S = true → btr (g S) b = false) ∧
    ((List.range N).foldl (fun s S => if ok S = true then bstS s (g S) else s) none = none → ∀ S,S < N → ok S = false) := by
  induction N with
  | zero => exact ⟨fun b h => by simp at h,fun _ S hS => by omega⟩
  | succ N ih =>
    rw [List.range_succ,List.foldl_append,List.foldl_cons,List.foldl_nil]
    generalize (List.range N).foldl (fun s S => if ok S = true then bstS s (g S) else s) none = s at *
    cases hN : ok N
    · rw [if_neg (by simp)]
      refine ⟨fun b h => ?_,fun h S hS => ?_⟩
      · obtain ⟨⟨S,h1,h2,h3⟩,h4⟩ := ih.1 b h
        refine ⟨⟨S,by omega,h2,h3⟩,fun S hS hok => ?_⟩
        by_cases c : S = N
        · subst c; rw [hN] at hok; cases hok
        · exact h4 S (by omega) hok
      · by_cases c : S = N
        · subst c; exact hN
        · exact ih.2 h S (by omega)
    · rw [if_pos rfl]
      cases s with
      | none =>
        refine ⟨fun b h => ?_,fun h => by simp [bstS] at h⟩
        simp only [bstS,Option.some.injEq] at h
        subst h
        refine ⟨⟨N,by omega,hN,rfl⟩,fun S hS hok => ?_⟩
        by_cases c : S = N
        · subst c; exact btr_self _
        · have := ih.2 rfl S (by omega); rw [this] at hok; cases hok
      | some y =>
        obtain ⟨⟨S0,h1,h2,h3⟩,h4⟩ := ih.1 y rfl
        refine ⟨fun b h => ?_,fun h => by simp only [bstS] at h; split at h <;> cases h⟩
        simp only [bstS] at h
        by_cases c : btr (g N) y = true
        · rw [if_pos c,Option.some.injEq] at h
          subst h
          refine ⟨⟨N,by omega,hN,rfl⟩,fun S hS hok => ?_⟩
          by_cases c2 : S = N
          · subst c2; exact btr_self _
          · cases hb : btr (g S) (g N)
            · rfl
            · have := h4 S (by omega) hok
              rw [btr_trans hb c] at this; cases this
        · rw [if_neg c,Option.some.injEq] at h
          subst h
          refine ⟨⟨S0,by omega,h2,h3⟩,fun S hS hok => ?_⟩
          by_cases c2 : S = N
          · subst c2; simpa using c
          · exact h4 S (by omega) hok
abbrev evr (P : List (Nat × Nat)) : Nat := 2 ^ P.length - 1
theorem wo_filter (L : List Nat) : ∀ (l : List (Nat × Nat)) (k : Nat),woF L k l = ((List.range l.length).filter fun i => !decide (k + i ∈ L)).map fun i => l.getD i (0,0)
  | [],k => rfl
  | p :: r,k => by
    rw [woF,List.length_cons,List.range_succ_eq_map,List.filter_cons,wo_filter L r (k + 1),Nat.add_zero]
    have e : ((List.map Nat.succ (List.range r.length)).filter fun i => !decide (k + i ∈ L)).map (fun i => (p :: r).getD i (0,0)) = ((List.range r.length).filter fun i => !decide (k + 1 + i ∈ L)).map fun i => r.getD i (0,0) := by
      rw [List.filter_map,List.map_map]
      have : ((fun i => !decide (k + i ∈ L)) ∘ Nat.succ) = fun i => !decide (k + 1 + i ∈ L) := by
        funext i; simp only [Function.comp]; rw [show k + i.succ = k + 1 + i by omega]
      rw [this]
      congr 1
    by_cases c : k ∈ L
    · rw [if_pos c,if_neg (by simp [c]),e]
    · rw [if_neg c,if_pos (by simp [c]),List.map_cons,e]; rfl
theorem evr_lt {P : List (Nat × Nat)} (h : P.length ≤ 12) : evr P < 4096 := by
  have : 2 ^ P.length ≤ 2 ^ 12 := Nat.pow_le_pow_right (by omega) h
  unfold evr; omega
theorem sub_wo {P : List (Nat × Nat)} (h : P.length ≤ 12) (S : Nat) : subP P (andN (evr P) S) = woF (numL S) 0 P := by
  rw [wo_filter,subP]
  congr 1
  refine List.filter_congr fun i hi => ?_
  have hi := List.mem_range.1 hi
  have he := evr_lt h
  rw [andN_bit _ _ _ (by omega),Nat.testBit_two_pow_sub_one,decide_eq_true hi,Bool.true_and,Nat.zero_add]
  congr 1
  rw [Bool.eq_iff_iff,decide_eq_true_eq,numL_mem]
  exact ⟨fun h => ⟨by omega,h⟩,fun h => h.2⟩
def okS (P : List (Nat × Nat)) (S : Nat) : Bool := decide (allR (subP P (andN (evr P) S)) = [])
theorem FS_len {n : Nat} {P : List (Nat × Nat)} (G : Good n P) : ∀ (T b : List Nat),(b ++ T).Nodup → FS n P b ≤ FS n P (b ++ T) + T.length
  | [],b,_ => by simp
  | t :: T,b,h => by
    have h1 := FS_add G b t (fun c => by
      have := (List.nodup_append.1 h).2.2 t c t (by simp)
      exact this rfl)
    have h2 := FS_len G T (b ++ [t]) (by simpa using h)
    rw [List.append_assoc] at h2
    simp only [List.length_cons,List.cons_append,List.nil_append] at h2 ⊢
    omega
theorem numL_asc (S : Nat) : (numL S).Pairwise (· < ·) := List.Pairwise.filter _ List.pairwise_lt_range
theorem numL_nodup (S : Nat) : (numL S).Nodup := (numL_asc S).imp fun h => Nat.ne_of_lt h
theorem ok_le {n : Nat} {P : List (Nat × Nat)} (G : Good n P) {S : Nat} (h : okS P S = true) : FW n P ≤ (numL S).length := by
  have h1 := FS_len G (numL S) [] (by simpa using numL_nodup S)
  have h2 := (no_ring (good_wo G (numL S) 0)).1 (by rw [← sub_wo G.le12]; simpa [okS] using h)
  have h3 : FS n P ([] ++ numL S) = 0 := h2
  have h4 : FS n P [] = FW n P := by rw [FS,wS,wo_nil]
  omega
theorem strikeF_pre (P : List (Nat × Nat)) : ∀ (k : Nat) (b : List Nat) (i : Nat) (l : List Nat),strikeF P k b i = some l → ∃ r,l = b ++ r ∧ r.length = k ∧ r.Pairwise (· < ·) ∧ (∀ x ∈ r,i ≤ x ∧ x < P.length) ∧ allR (woF l 0 P) = []
  | 0,b,i,l,h => by
    rw [strikeF] at h
    split at h
    · rename_i c
      cases h
      exact ⟨[],by simp,rfl,.nil,by simp,c⟩
    · cases h
  | k + 1,b,i,l,h => by
    rw [strikeF] at h
    obtain ⟨j,hj,h⟩ := List.exists_of_findSome?_eq_some h
    rw [List.mem_range'_1] at hj
    obtain ⟨r,rfl,h2,h3,h4,h5⟩ := strikeF_pre P k (b ++ [j]) (j + 1) l h
    refine ⟨j :: r,by simp,by simp [h2],List.pairwise_cons.2 ⟨fun x hx => by have := h4 x hx; omega,h3⟩,fun x hx => ?_,h5⟩
    rcases List.mem_cons.1 hx with rfl | hx
    · omega
    · have := h4 x hx; omega
theorem strikeF_first (P : List (Nat × Nat)) : ∀ (T b : List Nat) (i : Nat),T.Pairwise (· < ·) → (∀ x ∈ T,i ≤ x ∧ x < P.length) → allR (woF (b ++ T) 0 P) = [] → ∃ l,strikeF P T.length b i = some (b ++ l) ∧ ¬ cmpL T l < 0
  | [],b,i,_,_,h => by
    rw [List.append_nil] at h
    exact ⟨[],by rw [List.length_nil,strikeF,if_pos h,List.append_nil],by simp [cmpL]⟩
  | t :: T,b,i,hT,hm,h => by
    obtain ⟨h1,h2⟩ := List.pairwise_cons.1 hT
    have ht := hm t (by simp)
    obtain ⟨l,e,hl⟩ := strikeF_first P T (b ++ [t]) (t + 1) h2 (fun x hx => ⟨h1 x hx,(hm x (by simp [hx])).2⟩) (by simpa using h)
    rw [List.length_cons,strikeF]
    have hr : List.range' i (P.length - i) = List.range' i (t - i) ++ t :: List.range' (t + 1) (P.length - (t + 1)) := by
      have := List.range'_append_1 (s := i) (m := t - i) (n := P.length - t)
      rw [show i + (t - i) = t by omega,show t - i + (P.length - t) = P.length - i by omega] at this
      rw [← this,show P.length - t = (P.length - (t + 1)) + 1 by omega,List.range'_succ]
    rw [hr,List.findSome?_append]
    cases hf : (List.range' i (t - i)).findSome? fun i => strikeF P T.length (b ++ [i]) (i + 1) with
    | some q =>
      obtain ⟨j,hj,h3⟩ := List.exists_of_findSome?_eq_some hf
      rw [List.mem_range'_1] at hj
      obtain ⟨r,rfl,_⟩ := strikeF_pre P _ _ _ _ h3
      refine ⟨j :: r,by simp,?_⟩
      rw [cmpL,if_neg (by omega),if_pos (by omega)]; omega
    | none =>
      refine ⟨t :: l,?_,?_⟩
      · rw [List.findSome?_cons,e]; simp
      · rw [cmpL,if_neg (by omega),if_neg (by omega)]; exact hl
theorem asc_ext : ∀ (a b : List Nat),a.Pairwise (· < ·) → b.Pairwise (· < ·) → (∀ x,x ∈ a ↔ x ∈ b) → a = b
  | [],[],_,_,_ => rfl
  | [],y :: b,_,_,h => by have := (h y).2 (by simp); cases this
  | x :: a,[],_,_,h => by have := (h x).1 (by simp); cases this
  | x :: a,y :: b,ha,hb,h => by
    obtain ⟨a1,a2⟩ := List.pairwise_cons.1 ha
    obtain ⟨b1,b2⟩ := List.pairwise_cons.1 hb
    have hxy : x = y := by
      have p1 := (h x).1 (by simp)
      have p2 := (h y).2 (by simp)
      rcases List.mem_cons.1 p1 with p1 | p1
      · exact p1
      · rcases List.mem_cons.1 p2 with p2 | p2
        · exact p2.symm
        · have := a1 y p2; have := b1 x p1; omega
    subst hxy
    rw [asc_ext a b a2 b2 fun z => ?_]
    have hz := h z
    simp only [List.mem_cons] at hz
    constructor
    · intro hza
      have := a1 z hza
      exact (hz.1 (.inr hza)).resolve_left (by omega)
    · intro hzb
      have := b1 z hzb
      exact (hz.2 (.inr hzb)).resolve_left (by omega)
theorem numL_mk {l : List Nat} (h : l.Pairwise (· < ·)) (h12 : ∀ x ∈ l,x < 12) : numL (mk l) = l := by
  refine asc_ext _ _ (numL_asc _) h fun x => ?_
  rw [numL_mem,mk_bit,decide_eq_true_eq]
  exact ⟨fun h => h.2,fun h => ⟨h12 x h,h⟩⟩
theorem lt_pow_of_bits {S k : Nat} (h : ∀ i,k ≤ i → S.testBit i = false) : S < 2 ^ k := Nat.lt_pow_two_of_testBit S h
theorem strL_first {n : Nat} {P : List (Nat × Nat)} (G : Good n P) : (List.range (2 ^ P.length)).foldl (fun s S => if okS P S = true then bstS s (numL S) else s) none = some (strL n P) := by
  have hs := (strike_some G).1
  rw [strikeS_F] at hs
  have hf : fromN [] = 0 := rfl
  rw [hf] at hs
  obtain ⟨r,hr,h1,h2,h3,h4⟩ := strikeF_pre P _ _ _ _ hs
  rw [List.nil_append] at hr
  have h12 := G.le12
  have hnum : numL (mk r) = r := numL_mk h2 fun x hx => by have := h3 x hx; omega
  have hlt : mk r < 2 ^ P.length := lt_pow_of_bits fun i hi => by
    rw [mk_bit,decide_eq_false]
    intro c; have := h3 i c; omega
  have hok : okS P (mk r) = true := by
    rw [okS,sub_wo h12,hnum,← hr]; simpa using h4
  obtain ⟨hsome,hnone⟩ := bst_fold (okS P) numL (2 ^ P.length)
  generalize (List.range (2 ^ P.length)).foldl (fun s S => if okS P S = true then bstS s (numL S) else s) none = s at *
  cases s with
  | none => have := hnone rfl _ hlt; rw [hok] at this; cases this
  | some b =>
    obtain ⟨⟨S,hS,hSok,rfl⟩,hall⟩ := hsome b rfl
    have q1 := hall _ hlt hok
    have q2 := ok_le G hSok
    rw [hnum] at q1
    simp only [btr,Bool.or_eq_false_iff,Bool.and_eq_false_imp,decide_eq_false_iff_not,decide_eq_true_eq] at q1
    have hlen : (numL S).length = r.length := by omega
    obtain ⟨l,e,hl⟩ := strikeF_first P (numL S) [] 0 (numL_asc S) (fun x hx => ⟨by omega,by
      rcases Nat.lt_or_ge x P.length with c | c
      · exact c
      · have := (numL_mem.1 hx).2
        rw [Nat.testBit_lt_two_pow (Nat.lt_of_lt_of_le hS (Nat.pow_le_pow_right (by omega) c))] at this
        cases this⟩) (by rw [List.nil_append,← sub_wo h12]; simpa [okS] using hSok)
    rw [hlen,h1,hs,List.nil_append,Option.some.injEq] at e
    rw [← e,hr] at hl
    rw [hr,cmpL_eq (numL S) r hl (q1.2 (by omega))]
theorem zero_bad {n : Nat} {P : List (Nat × Nat)} (G : Good n P) {o : List Nat} {X : Nat} : contr (subP P X) o = 0 ↔ ∀ i,i < P.length → X.testBit i = true → badI P o i = false := by
  rw [contr,List.countP_eq_zero]
  constructor
  · intro h i hi hX
    have := h (st P i,en P i) (subP_mem.2 ⟨i,hi,hX,rfl⟩)
    simpa [badI] using this
  · intro h p hp
    obtain ⟨i,hi,hX,rfl⟩ := subP_mem.1 hp
    have := h i hi hX
    simpa [badI] using this
theorem zero_none {n : Nat} {P : List (Nat × Nat)} (G : Good n P) {o : List Nat} (ho : o ∈ ords n) (h : contr P o = 0) : allR P = [] := by
  have := FW_le G ho
  exact (no_ring G).2 (by omega)
theorem least_met {n : Nat} {P : List (Nat × Nat)} (G : Good n P) {S : Nat} (hS : S < 2 ^ P.length) (hok : okS P S = true) (hl : ∀ i ∈ numL S,¬ allR (subP P (andN (evr P) S ||| 2 ^ i)) = []) : ∃ o ∈ ords n,msk P o = S := by
  have h12 := G.le12
  have he := evr_lt h12
  have hS12 : S < 2 ^ 12 := Nat.lt_of_lt_of_le hS (Nat.pow_le_pow_right (by omega) h12)
  obtain ⟨o,ho,hc⟩ := FW_at (subP_good G (andN (evr P) S))
  have h0 : FW n (subP P (andN (evr P) S)) = 0 := (no_ring (subP_good G _)).1 (by simpa [okS] using hok)
  rw [h0] at hc
  have hb := (zero_bad G).1 hc
  refine ⟨o,ho,?_⟩
  apply Nat.eq_of_testBit_eq
  intro i
  rw [mskK_bit]
  by_cases hi : i < P.length
  · rw [decide_eq_true hi,Bool.true_and]
    cases hSi : S.testBit i
    · exact hb i hi (by rw [andN_bit _ _ _ (by omega),Nat.testBit_two_pow_sub_one,decide_eq_true hi,hSi]; rfl)
    · cases hbi : badI P o i
      · exfalso
        refine hl i (numL_mem.2 ⟨by omega,hSi⟩) ?_
        refine zero_none (subP_good G _) ho ((zero_bad G).2 fun j hj hX => ?_)
        rw [Nat.testBit_or,Nat.testBit_two_pow] at hX
        by_cases c : i = j
        · subst c; exact hbi
        · rw [decide_eq_false c,Bool.or_false] at hX
          exact hb j hj hX
      · rfl
  · rw [decide_eq_false hi,Bool.false_and]
    exact (Nat.testBit_lt_two_pow (Nat.lt_of_lt_of_le hS (Nat.pow_le_pow_right (by omega) (by omega)))).symm
def twP (P : List (Nat × Nat)) (S : Nat) : List (Nat × Nat) := (List.range P.length).map fun i => if S.testBit i = true then (en P i,st P i) else (st P i,en P i)
theorem twP_len (P : List (Nat × Nat)) (S : Nat) : (twP P S).length = P.length := by simp [twP]
theorem twP_at (P : List (Nat × Nat)) (S i : Nat) (h : i < P.length) : (twP P S)[i]? = some (if S.testBit i = true then (en P i,st P i) else (st P i,en P i)) := by
  rw [twP,List.getElem?_map,List.getElem?_range h]; rfl
theorem twP_good {n : Nat} {P : List (Nat × Nat)} (G : Good n P) (S : Nat) : Good n (twP P S) := by
  refine ⟨G.pos,G.le6,by rw [twP_len]; exact G.le12,fun p hp => ?_,fun p hp => ?_⟩
  all_goals
    obtain ⟨i,hi,rfl⟩ := List.mem_map.1 hp
    have := st_lt G (List.mem_range.1 hi)
    split
  · exact ⟨this.2.1,this.1⟩
  · exact ⟨this.1,this.2.1⟩
  · exact fun e => this.2.2 e.symm
  · exact this.2.2
theorem twP_cast {P : List (Nat × Nat)} (h12 : P.length ≤ 12) (S : Nat) : (twP P S).map castP = twF (ci (numL S)) 0 (P.map castP) := by
  apply List.ext_getElem?
  intro i
  rw [twF_at,List.getElem?_map,List.getElem?_map]
  by_cases hi : i < P.length
  · rw [twP_at P S i hi,List.getElem?_eq_getElem hi]
    simp only [Option.map_some,Nat.zero_add]
    have hm : ((i : Nat) : Int) ∈ ci (numL S) ↔ S.testBit i = true := by
      rw [ci_mem,numL_mem]
      exact ⟨fun h => h.2,fun h => ⟨by omega,h⟩⟩
    have e1 : (P[i]).1 = st P i := by rw [st,getD_at P i _ hi]
    have e2 : (P[i]).2 = en P i := by rw [en,getD_at P i _ hi]
    by_cases c : S.testBit i = true
    · rw [if_pos c,if_pos (hm.2 c)]
      simp only [castP,swp,e1,e2]
    · rw [if_neg c,if_neg (fun h => c (hm.1 h))]
      simp only [castP,e1,e2]
  · rw [List.getElem?_eq_none (by rw [twP_len]; omega),List.getElem?_eq_none (by omega)]; rfl
theorem twP_none {n : Nat} {P : List (Nat × Nat)} (G : Good n P) {S : Nat} {o : List Nat} (ho : o ∈ ords n) (h : msk P o = S) : allR (twP P S) = [] := by
  refine zero_none (twP_good G S) ho ?_
  rw [contr,List.countP_eq_zero]
  intro p hp
  obtain ⟨i,hi,rfl⟩ := List.mem_map.1 hp
  have hi := List.mem_range.1 hi
  have hb := mskK_bit P o i P.length
  rw [decide_eq_true hi,Bool.true_and] at hb
  have hb : S.testBit i = badI P o i := by rw [← h]; exact hb
  rw [badI] at hb
  by_cases c : S.testBit i = true
  · rw [if_pos c]
    rw [c] at hb
    have := of_decide_eq_true hb.symm
    simp; omega
  · rw [if_neg c]
    have hf : S.testBit i = false := by simpa using c
    rw [hf] at hb
    have := of_decide_eq_false hb.symm
    simpa using this
theorem foldmin (f : List Nat → Nat) : ∀ (l : List (List Nat)) (a : Nat),l.foldl (fun a o => min a (f o)) a ≤ a ∧ (∀ o ∈ l,l.foldl (fun a o => min a (f o)) a ≤ f o) ∧ (l.foldl (fun a o => min a (f o)) a = a ∨ ∃ o ∈ l,l.foldl (fun a o => min a (f o)) a = f o)
  | [],a => ⟨Nat.le_refl _,by simp,.inl rfl⟩
  | o :: l,a => by
    obtain ⟨h1,h2,h3⟩ := foldmin f l (min a (f o))
    rw [List.foldl_cons]
    refine ⟨by omega,fun x hx => ?_,?_⟩
    · rcases List.mem_cons.1 hx with rfl | hx
      · omega
      · exact h2 x hx
    · rcases h3 with h3 | ⟨x,hx,h3⟩
      · by_cases c : a ≤ f o
        · left; omega
        · exact .inr ⟨o,by simp,by omega⟩
      · exact .inr ⟨x,by simp [hx],h3⟩
theorem few_all {n : Nat} {P : List (Nat × Nat)} (G : Good n P) : (ords n).foldl (fun a o => min a (contr P o)) 100 = FW n P := by
  obtain ⟨h1,h2,h3⟩ := foldmin (contr P) (ords n) 100
  obtain ⟨o,ho,hc⟩ := FW_at G
  have := h2 o ho
  have h12 := G.le12
  have hl : contr P o ≤ P.length := List.countP_le_length
  rcases h3 with h3 | ⟨x,hx,h3⟩
  · omega
  · have := FW_le G hx; omega
end Go.Am.Ring
set_option linter.unusedVariables false
set_option linter.unusedSimpArgs false
set_option maxRecDepth 10000
set_option maxHeartbeats 1000000
namespace Go.Am.Ring
open Go.Am.G
def entU (E : List Nat) : List LV := E.flatMap fun e : Nat => [.int .u64 ((e : Nat) : Int),.bool true]
theorem findU_none (x : Nat) : ∀ (E : List Nat) (j : Nat),x ∉ E → findML (.int .u64 (x : Int)) (entU E) j = some none
  | [],j,_ => rfl
  | a :: r,j,h => by
    have ha : ¬ x = a := fun e => h (by simp [e])
    have ih := findU_none x r (j + 2) fun e => h (by simp [e])
    have hq : ((x : Int) == (a : Int)) = false := by rw [beq_eq_false_iff_ne]; omega
    simp only [entU,List.flatMap_cons,List.cons_append,List.nil_append] at ih ⊢
    simp only [findML,keyEqL,kind_beq,cond_true,hq,ih]
theorem findU_some (x : Nat) : ∀ (E : List Nat) (j : Nat),x ∈ E → ∃ q,findML (.int .u64 (x : Int)) (entU E) j = some (some (j + q,.bool true)) ∧ (entU E).set (q + 1) (.bool true) = entU E
  | [],j,h => by cases h
  | a :: r,j,h => by
    by_cases ha : x = a
    · subst ha
      refine ⟨0,?_,?_⟩
      · simp only [entU,List.flatMap_cons,List.cons_append,List.nil_append,findML,keyEqL,cond_true,BEq.rfl,Nat.add_zero]
      · simp [entU]
    · have hx : x ∈ r := by
        rcases List.mem_cons.1 h with h | h
        · exact absurd h ha
        · exact h
      obtain ⟨q,h1,h2⟩ := findU_some x r (j + 2) hx
      have hq : ((x : Int) == (a : Int)) = false := by rw [beq_eq_false_iff_ne]; omega
      refine ⟨q + 2,?_,?_⟩
      · simp only [entU,List.flatMap_cons,List.cons_append,List.nil_append] at h1 ⊢
        simp only [findML,keyEqL,kind_beq,cond_true,hq,h1]
        rw [show j + 2 + q = j + (q + 2) by omega]
      · simp only [entU,List.flatMap_cons,List.cons_append,List.nil_append] at h2 ⊢
        rw [show q + 2 + 1 = (q + 1) + 1 + 1 by omega]
        simp only [List.set_cons_succ]
        rw [h2]
theorem entU_noRefs (i : Nat) : ∀ (E : List Nat),LV.noRefs i (entU E) = true
  | [] => rfl
  | a :: r => by
    have ih := entU_noRefs i r
    simp only [entU,List.flatMap_cons,List.cons_append,List.nil_append,LV.noRefs,LV.noRef,Bool.true_and] at ih ⊢
    exact ih
def addU (E : List Nat) (x : Nat) : List Nat := if x ∈ E then E else E ++ [x]
theorem addU_mem (E : List Nat) (x y : Nat) : y ∈ addU E x ↔ y ∈ E ∨ y = x := by
  unfold addU
  by_cases c : x ∈ E
  · rw [if_pos c]
    exact ⟨.inl,fun h => h.elim id fun e => e ▸ c⟩
  · rw [if_neg c]; simp
theorem putU (m : LMem) (b : Nat) (E : List Nat) (x : Nat) (h : m[b]? = some ⟨[.ents (entU E)],true⟩) : putML m (.map b) (.int .u64 (x : Int)) (.bool true) = some (m.set b ⟨[.ents (entU (addU E x))],true⟩) := by
  by_cases c : x ∈ E
  · obtain ⟨q,h1,h2⟩ := findU_some x E 0 c
    simp only [putML,LV.isInt,cond_true,h,h1,Nat.zero_add,h2,addU,if_pos c]
  · have h1 := findU_none x E 0 c
    have h2 : entU E ++ [.int .u64 (x : Int),.bool true] = entU (E ++ [x]) := by simp [entU]
    simp only [putML,LV.isInt,cond_true,h,h1,h2,addU,if_neg c]
theorem lookU (m : LMem) (b : Nat) (E : List Nat) (x : Nat) (h : m[b]? = some ⟨[.ents (entU E)],true⟩) : lookL m false (.bool false) (.map b) (.int .u64 (x : Int)) = some (.bool (decide (x ∈ E))) := by
  by_cases c : x ∈ E
  · obtain ⟨q,h1,_⟩ := findU_some x E 0 c
    simp only [lookL,LV.isInt,cond_true,entsL,h,h1,cond_false,decide_eq_true c]
  · have h1 := findU_none x E 0 c
    simp only [lookL,LV.isInt,cond_true,entsL,h,h1,cond_false,decide_eq_false c]
structure SI (fv : LV) (s : List Nat × Nat) (O : List Nat) (m : LMem) : Prop where
  c1 : m[1]? = some ⟨[fv],true⟩
  c2 : m[2]? = some ⟨[.ents (entU s.1)],true⟩
  c3 : m[3]? = some ⟨[.map 2],true⟩
  c4 : m[4]? = some ⟨[.int .i64 (s.2 : Int)],true⟩
  own : O = [1,2,3,4]
theorem struck_vis {n : Nat} {P : List (Nat × Nat)} (G : Good n P) (a b : Bool) (z : Nat) {s : List Nat × Nat} {O : List Nat} {m : LMem} {o : List Nat} (h : SI (FN a b z P) s O m) (ho : o ∈ ords n) (h9 : 5 ≤ m.length) :
    ∃ m' O',clF LP n_law04_RingStruck_1 [.sl m.length 0 o.length o.length 1 1 o.length,.ptr 1 0 1,.ptr 3 0 1,.ptr 4 0 1] (m ++ [⟨ints (ci o),true⟩]) = some (.W,.tup [],m') ∧ SI (FN a b z P) (addU s.1 (msk P o),min s.2 (contr P o)) O' m' ∧ Exn m m' O ∧ ∀ i ∈ O',i ∈ O ∨ m.length ≤ i := by
  have hO := ords_ok ho
  have h12 := G.le12
  have hol := hO.2.1
  have hpF : LV.pure (FN a b z P) = true := rfl
  have up : ∀ {i : Nat} {c : LBlk},m[i]? = some c → (m ++ [(⟨ints (ci o),true⟩ : LBlk)])[i]? = some c := fun h => by rw [List.getElem?_append_left (get_lt h)]; exact h
  have hEM : Exn m (m ++ [(⟨ints (ci o),true⟩ : LBlk)]) O := Exn.app O fun j => noRefs_int j _ _
  have hmask : clF LP n_law04_against [FN a b z P,.sl m.length 0 n n 1 1 n] (m ++ [⟨ints (ci o),true⟩]) = some (.P,.int .u64 ((msk P o : Nat) : Int),m ++ [⟨ints (ci o),true⟩]) :=
    call_view lp_law04_against rfl (views2 (fun k => view_ord (get_last _ _) n hol k) hpF rfl) (by simp [LV.pures,LV.pure]) (mask_c G a b z false false 1 o (by have := G.le6; omega) []) rfl
  have hmk := mskK_lt P o P.length h12
  have hpc := fun M => pc_c (x := msk P o) hmk M
  simp only [msk_len G o] at hpc
  have c1 := up h.c1
  have c2 := up h.c2
  have c3 := up h.c3
  have c4 := up h.c4
  have hM : (m ++ [(⟨ints (ci o),true⟩ : LBlk)]).length = m.length + 1 := by simp
  rw [hol]
  generalize m ++ [(⟨ints (ci o),true⟩ : LBlk)] = M at *
  have hput := putU M 2 s.1 (msk P o) c2
  have l2 := get_lt c2
  have l4 := get_lt c4
  have d4 : (M.set 2 ⟨[.ents (entU (addU s.1 (msk P o)))],true⟩)[4]? = some ⟨[.int .i64 (s.2 : Int)],true⟩ := by rw [List.getElem?_set_ne (by omega)]; exact c4
  have hmin : (if ((contr P o : Nat) : Int) < (s.2 : Int) then ((contr P o : Nat) : Int) else (s.2 : Int)) = ((min s.2 (contr P o) : Nat) : Int) := by split <;> omega
  have hout := h.own
  refine ⟨(M.set 2 ⟨[.ents (entU (addU s.1 (msk P o)))],true⟩).set 4 ⟨[.int .i64 ((min s.2 (contr P o) : Nat) : Int)],true⟩,O,?_,⟨?_,?_,?_,?_,hout⟩,?_,fun i hi => .inl hi⟩
  · have hrun : retL law04_RingStruck_1.results (exF LP law04_RingStruck_1.body (LEnv.ofFrom 0 [.sl m.length 0 n n 1 1 n,.ptr 1 0 1,.ptr 3 0 1,.ptr 4 0 1]) M) = some (.tup [],(M.set 2 ⟨[.ents (entU (addU s.1 (msk P o)))],true⟩).set 4 ⟨[.int .i64 ((min s.2 (contr P o) : Nat) : Int)],true⟩) := by
      generalize FN a b z P = FP at *
      have n4 : ¬ M.length ≤ 4 := by omega
      simp only [law04_RingStruck_1,law04_RingStruck_1.B,exF_seq,exF_region,runL,wantL,stepL,evL,evC,LEnv.at,putL,loadFine,loadL,cellsAt,Trk.putNew,Trk.up,Trk.touch,Trk.gives,Trk.calm,Trk.hit,opdsOf,Trk.fresh,LEnv.keep,LEnv.ofFrom,List.map_cons,List.map_nil,nbeq,nble,ofAVs,List.any_cons,List.any_nil,Bool.or_false,Bool.false_or,Bool.true_or,Bool.or_true,Bool.and_true,Bool.false_and,Bool.not_true,Bool.not_false,Nat.reduceEqDiff,decide_true,decide_false,cond_true,cond_false,List.filter_nil,Nat.reduceAdd,Nat.reduceLeDiff,reduceCtorEq,List.length_nil,List.length_cons,eq_self,retL,resultsL,resAllL,List.append_nil,List.nil_append,LV.cells,List.getElem?_cons_zero,storeL,spliceL,List.take_zero,List.take_succ_cons,List.drop_zero,List.drop_succ_cons,List.drop_nil,List.take_nil,Nat.le_refl,LV.scalar,List.all_cons,List.all_nil,foldIntL,kind_beq,c1,hmask,c3,hput,hpc,d4,List.length_set,n4,foldIntL,hmin]
    rw [call_W lp_law04_RingStruck_1 rfl hrun,trim_le _ _ _ (by simp)]
  · rw [List.getElem?_set_ne (by omega),List.getElem?_set_ne (by omega)]; exact c1
  · rw [List.getElem?_set_ne (by omega),List.getElem?_set_self l2]
  · rw [List.getElem?_set_ne (by omega),List.getElem?_set_ne (by omega)]; exact c3
  · rw [List.getElem?_set_self (by simpa using l4)]
  · refine Exn.setq (Exn.setq hEM (by rw [hout]; simp) (by omega) fun i _ => ?_) (by rw [hout]; simp) (by simp; omega) fun i _ => rfl
    simp only [LV.noRefs,LV.noRef,Bool.and_true]
    exact entU_noRefs i _
def struckVis {n : Nat} {P : List (Nat × Nat)} (G : Good n P) (a b : Bool) (z : Nat) : AVis (List Nat × Nat) n 5 where
  I := SI (FN a b z P)
  vis := fun s o => (addU s.1 (msk P o),min s.2 (contr P o))
  f := n_law04_RingStruck_1
  cap := [.ptr 1 0 1,.ptr 3 0 1,.ptr 4 0 1]
  size := fun _ => 0
  hsz := fun _ _ => by omega
  hI := by
    intro s O m m' h e
    have ho := h.own
    subst ho
    exact ⟨by rw [e 1 (by simp)]; exact h.c1,by rw [e 2 (by simp)]; exact h.c2,by rw [e 3 (by simp)]; exact h.c3,by rw [e 4 (by simp)]; exact h.c4,rfl⟩
  hlt := by
    intro s O m h i hi
    have := get_lt h.c4
    rw [h.own] at hi
    simp at hi; omega
  hT := by
    intro s O m k h hk hb i hi
    rw [h.own] at hi
    simp at hi; omega
  hvis := fun _ _ _ _ h ho _ h9 _ => struck_vis G a b z h ho h9
theorem struck_fold (P : List (Nat × Nat)) : ∀ (l : List (List Nat)) (s : List Nat × Nat),l.foldl (fun s o => (addU s.1 (msk P o),min s.2 (contr P o))) s = (l.foldl (fun E o => addU E (msk P o)) s.1,l.foldl (fun a o => min a (contr P o)) s.2)
  | [],s => rfl
  | o :: r,s => by rw [List.foldl_cons,struck_fold P r]; rfl
theorem add_mem (P : List (Nat × Nat)) (x : Nat) : ∀ (l : List (List Nat)) (E : List Nat),x ∈ l.foldl (fun E o => addU E (msk P o)) E ↔ x ∈ E ∨ ∃ o ∈ l,msk P o = x
  | [],E => by simp
  | o :: r,E => by
    rw [List.foldl_cons,add_mem P x r,addU_mem]
    constructor
    · rintro ((h | h) | ⟨q,h1,h2⟩)
      · exact .inl h
      · exact .inr ⟨o,by simp,h.symm⟩
      · exact .inr ⟨q,by simp [h1],h2⟩
    · rintro (h | ⟨q,h1,h2⟩)
      · exact .inl (.inl h)
      · rcases List.mem_cons.1 h1 with rfl | h1
        · exact .inl (.inr h2.symm)
        · exact .inr ⟨q,h1,h2⟩
end Go.Am.Ring
set_option linter.unusedVariables false
set_option linter.unusedSimpArgs false
set_option maxRecDepth 10000
set_option maxHeartbeats 1000000
namespace Go.Am.Ring
open Go.Am.G
abbrev stE (n : Nat) (P : List (Nat × Nat)) (bv fb : LV) (r : LEnv) : LEnv := (3,.int .i64 (n : Int)) :: (4,.ptr 1 0 1) :: (5,.ptr 3 0 1) :: (6,.ptr 4 0 1) :: (7,.int .u64 ((evr P : Nat) : Int)) :: (8,bv) :: (9,fb) :: r
def lstB (P : List (Nat × Nat)) (S i : Nat) : Bool := !decide (allR (subP P (andN (evr P) S ||| 2 ^ i)) = [])
theorem st_L0 {n : Nat} {P : List (Nat × Nat)} (G : Good n P) (a b : Bool) (z : Nat) (M : LMem) (c1 : M[1]? = some ⟨[FN a b z P],true⟩) (S : Nat) (hS : S < 4096) (R : List Nat) (hR : ∀ i ∈ R,i < 12) (hRl : R.length < 1000) (oa ob : Bool) (oz : Nat) (hoz : R = [] ∨ oz = 1) (bv fb t37 t38 : LV) (j : Nat) : ∀ (k : Nat) (acc : Bool),k + j = R.length →
    exF LP law04_RingStruck.L0 (stE n P bv fb [(10,.int .u64 (S : Int)),(11,IL oa ob oz (ci R)),(12,.bool acc),(37,t37),(38,t38),(73,IL oa ob oz (ci R)),(74,.int .i64 (R.length : Int)),(75,.int .i64 (k : Int))]) M =
      some (.exit 2,stE n P bv fb [(10,.int .u64 (S : Int)),(11,IL oa ob oz (ci R)),(12,.bool (acc && (R.drop k).all (lstB P S))),(37,t37),(38,t38)],M) := by
  have hcl := ci_len R
  have he := evr_lt G.le12
  have hM1 : ¬ M.length ≤ 1 := by have := get_lt c1; omega
  induction j with
  | zero =>
    intro k acc hk
    rw [law04_RingStruck.L0_eq,List.drop_eq_nil_of_le (by omega)]
    generalize IL oa ob oz (ci R) = ov at *
    simp only [law04_RingStruck.B0,exF_seq,exF_region,exF_cond,exF_exit,runL,wantL,stepL,evL,LEnv.at,putL,loadFine,LEnv.keep,List.map_cons,List.map_nil,nbeq,bin_lss,Bool.and_true,Nat.reduceEqDiff,decide_true,decide_false,cond_true,cond_false,eq_self,List.all_nil,show ¬ ((k : Int) < (R.length : Int)) by omega]
  | succ j ih =>
    intro k acc hk
    have h2 : k < R.length := by omega
    obtain rfl := hoz.resolve_left (fun e => by rw [e] at h2; simp at h2)
    have hkk : (k : Int) < (R.length : Int) := by omega
    have hw := wrap_succ (show k + 1 < 9223372036854775808 by omega)
    have hi := hR _ (List.getElem_mem h2)
    have b0 := nat_at .i64 R k h2
    have hat : (ci R).map (LV.int .i64) = R.map fun y : Nat => LV.int .i64 (y : Int) := by simp
    rw [← hat] at b0
    rw [List.drop_eq_getElem_cons h2,List.all_cons]
    generalize R[k] = i at *
    have hshl := bits_shl (show i < 64 by omega)
    have hp : 2 ^ i < 2 ^ 12 := Nat.pow_lt_pow_right (by omega) hi
    have hal : andN (evr P) S < 2 ^ 12 := andN_lt _ _ 12 (by omega) (by omega)
    have hand := bits_andNot (a := evr P) (b := S) (by omega) (by omega)
    have hor := bits_or (a := andN (evr P) S) (b := 2 ^ i) (by omega) (by omega)
    have hlt : andN (evr P) S ||| 2 ^ i < 4096 := Nat.or_lt_two_pow (n := 12) hal hp
    have hr := fun m => ringless_c G a b z (andN (evr P) S ||| 2 ^ i) hlt m
    have hlb : lstB P S i = !decide (allR (subP P (andN (evr P) S ||| 2 ^ i)) = []) := rfl
    rw [law04_RingStruck.L0_eq]
    cases acc
    · have := ih (k + 1) false (by omega)
      rw [Bool.false_and] at this ⊢
      rw [← this]
      simp only [IL,hcl] at b0 ⊢
      generalize (ci R).map (LV.int .i64) = row at *
      simp only [law04_RingStruck.B0,law04_RingStruck.B0.R0,beqT,exF_seq,exF_region,exF_block,exF_cond,exF_skip,runL,wantL,stepL,evL,evC,LEnv.at,putL,loadFine,loadL,cellsAt,Trk.putNew,Trk.up,Trk.touch,Trk.gives,Trk.calm,opdsOf,Trk.fresh,LEnv.keep,List.map_cons,List.map_nil,nbeq,nble,nblt,bin_add,bin_lss,natL_nat,List.any_cons,List.any_nil,Bool.or_false,Bool.or_true,Bool.and_true,Bool.false_and,Bool.not_true,Bool.not_false,Nat.reduceEqDiff,decide_true,decide_false,cond_true,cond_false,List.filter_nil,Nat.reduceAdd,Nat.reduceLeDiff,Nat.mul_one,eq_self,hkk,h2,b0,hw]
    · have := ih (k + 1) (lstB P S i) (by omega)
      rw [Bool.true_and,← this,hlb]
      simp only [IL,hcl] at b0 ⊢
      generalize (ci R).map (LV.int .i64) = row at *
      generalize (andN (evr P) S ||| 2 ^ i : Nat) = X at *
      generalize FN a b z P = FP at *
      simp only [law04_RingStruck.B0,law04_RingStruck.B0.R0,beqT,exF_seq,exF_region,exF_block,exF_cond,exF_skip,runL,wantL,stepL,evL,evC,LEnv.at,putL,loadFine,loadL,cellsAt,Trk.putNew,Trk.up,Trk.touch,Trk.gives,Trk.calm,Trk.hit,opdsOf,Trk.fresh,LEnv.keep,List.map_cons,List.map_nil,nbeq,nble,nblt,ofAVs,bin_add,bin_lss,natL_nat,List.any_cons,List.any_nil,Bool.or_false,Bool.or_true,Bool.and_true,Bool.false_and,Bool.not_true,Bool.not_false,Nat.reduceEqDiff,decide_true,decide_false,cond_true,cond_false,List.filter_nil,Nat.reduceAdd,Nat.reduceLeDiff,reduceCtorEq,List.length_nil,List.length_cons,Nat.mul_one,eq_self,List.append_nil,List.nil_append,unL,List.getElem?_cons_zero,List.take_succ_cons,List.drop_zero,List.take_nil,Nat.le_refl,hkk,h2,Nat.zero_add,b0,hw,c1,hM1,hand,hshl,hor,hr]
theorem tw_se {P : List (Nat × Nat)} (S k : Nat) (h : k < P.length) : st (twP P S) k = (if S.testBit k = true then en P k else st P k) ∧ en (twP P S) k = if S.testBit k = true then st P k else en P k := by
  have h1 := twP_at P S k h
  have h2 : k < (twP P S).length := by rw [twP_len]; exact h
  rw [List.getElem?_eq_getElem h2,Option.some.injEq] at h1
  have e1 : st (twP P S) k = ((twP P S)[k]).1 := by rw [st,getD_at _ k _ h2]
  have e2 : en (twP P S) k = ((twP P S)[k]).2 := by rw [en,getD_at _ k _ h2]
  rw [e1,e2,h1]
  split <;> exact ⟨rfl,rfl⟩
theorem st_L1 {n : Nat} {P : List (Nat × Nat)} (h12 : P.length ≤ 12) (a b : Bool) (z : Nat) (ta tb : Bool) (tz : Nat) (S : Nat) (hS : S < 4096) (bv fb t37 t38 : LV) (hz : P = [] ∨ z = 2) (htz : P = [] ∨ tz = 2) (j : Nat) : ∀ (k : Nat) (M : LMem),k + j = P.length →
    ∃ M',exF LP law04_RingStruck.L1 (stE n P bv fb [(10,.int .u64 (S : Int)),(15,FN ta tb tz (twP P S)),(37,t37),(38,t38),(117,FN a b z P),(118,.int .i64 (P.length : Int)),(119,.int .i64 (k : Int))]) M =
      some (.exit 4,stE n P bv fb [(15,FN ta tb tz (twP P S)),(37,t37),(38,t38)],M') ∧ M.length ≤ M'.length ∧ ∀ i,i < M.length → M'[i]? = M[i]? := by
  have htl := twP_len P S
  induction j with
  | zero =>
    intro k M hk
    refine ⟨M,?_,Nat.le_refl _,fun _ _ => rfl⟩
    rw [law04_RingStruck.L1_eq]
    generalize FN ta tb tz (twP P S) = TV at *
    generalize FN a b z P = FP at *
    simp only [law04_RingStruck.B1,exF_seq,exF_region,exF_cond,exF_exit,runL,wantL,stepL,evL,LEnv.at,putL,loadFine,LEnv.keep,List.map_cons,List.map_nil,nbeq,bin_lss,Nat.reduceEqDiff,decide_true,decide_false,cond_true,cond_false,eq_self,show ¬ ((k : Int) < (P.length : Int)) by omega]
  | succ j ih =>
    intro k M hk
    have h2 : k < P.length := by omega
    have hPne : P ≠ [] := fun e => by rw [e] at h2; simp at h2
    obtain rfl := hz.resolve_left hPne
    obtain rfl := htz.resolve_left hPne
    have hkk : (k : Int) < (P.length : Int) := by omega
    have hw := wrap_succ (show k + 1 < 9223372036854775808 by omega)
    have seg := pcSE P k h2
    have ok := pcN_ok P k h2
    have seg2 := pcSE (twP P S) k (by rw [htl]; exact h2)
    have ok2 := pcN_ok (twP P S) k (by rw [htl]; exact h2)
    obtain ⟨e1,e2⟩ := tw_se S k h2
    have hshr := bits_shr (a := S) (i := k) (by omega)
    have hand := bits_and1 (a := S / 2 ^ k) (Nat.lt_of_le_of_lt (Nat.div_le_self _ _) (by omega))
    have hbit : S.testBit k = decide (S / 2 ^ k % 2 = 1) := by rw [Nat.testBit_eq_decide_div_mod_eq]
    have he : ∀ x y : Int,eqIntsL [.int .i64 x,.int .i64 y] [.int .i64 x,.int .i64 y] = some true := fun x y => by simp [eqIntsL]
    have hnl : ∀ b : LBlk,¬ (M ++ [b]).length ≤ M.length := fun b => by simp
    by_cases c : S.testBit k = true
    · have c' : (((S / 2 ^ k % 2 : Nat)) : Int) = 1 := by
        have := of_decide_eq_true (hbit ▸ c); omega
      rw [if_pos c] at e1 e2
      rw [e1,e2] at seg2
      obtain ⟨M',hex,hl,hk'⟩ := ih (k + 1) (M ++ [⟨[.int .i64 ((en P k : Nat) : Int),.int .i64 ((st P k : Nat) : Int)],true⟩]) (by omega)
      refine ⟨M',?_,by simp at hl; omega,fun i hi => by rw [hk' i (by simp; omega),List.getElem?_append_left hi]⟩
      rw [law04_RingStruck.L1_eq]
      simp only [FN_eq,htl] at hex ⊢
      generalize (S / 2 ^ k % 2 : Nat) = bit at *
      generalize (S / 2 ^ k : Nat) = sh at *
      generalize pcI (P.map castP) = PI at *
      generalize pcI ((twP P S).map castP) = TI at *
      simp only [law04_RingStruck.B1,exF_seq,exF_region,exF_block,exF_cond,exF_skip,runL,wantL,stepL,evL,evC,LEnv.at,putL,loadFine,loadL,cellsAt,Trk.putNew,Trk.up,Trk.touch,Trk.gives,Trk.calm,Trk.hit,opdsOf,Trk.fresh,LEnv.keep,List.map_cons,List.map_nil,nbeq,nble,nblt,ofAV,ofAVs,bin_add,bin_eql,bin_lss,natL_nat,natL_zero,natL_one,List.any_cons,List.any_nil,Bool.or_false,Bool.or_true,Bool.and_true,Bool.false_and,Bool.not_true,Bool.not_false,Nat.reduceEqDiff,decide_true,decide_false,cond_true,cond_false,List.filter_nil,Nat.reduceAdd,Nat.reduceLeDiff,reduceCtorEq,List.length_nil,List.length_cons,Nat.mul_one,eq_self,List.append_nil,List.nil_append,List.cons_append,LV.cells,allocL,List.getElem?_cons_zero,List.getElem?_cons_succ,storeL,spliceL,List.take_zero,List.take_succ_cons,List.drop_zero,List.drop_succ_cons,List.drop_nil,List.take_nil,Nat.le_refl,LV.scalar,List.all_cons,List.all_nil,Nat.lt_add_one,Nat.reduceLT,fillL,hkk,h2,Nat.zero_add,seg,ok,seg2,ok2,hshr,hand,c',set_last,get_last,hnl,he,Bool.xor_true,hw,hex]
    · have c' : ¬ (((S / 2 ^ k % 2 : Nat)) : Int) = 1 := by
        intro h
        apply c
        rw [hbit]
        exact decide_eq_true (by omega)
      rw [if_neg c] at e1 e2
      rw [e1,e2] at seg2
      obtain ⟨M',hex,hl,hk'⟩ := ih (k + 1) (M ++ [⟨[.int .i64 ((st P k : Nat) : Int),.int .i64 ((en P k : Nat) : Int)],true⟩]) (by omega)
      refine ⟨M',?_,by simp at hl; omega,fun i hi => by rw [hk' i (by simp; omega),List.getElem?_append_left hi]⟩
      rw [law04_RingStruck.L1_eq]
      simp only [FN_eq,htl] at hex ⊢
      generalize (S / 2 ^ k % 2 : Nat) = bit at *
      generalize (S / 2 ^ k : Nat) = sh at *
      generalize pcI (P.map castP) = PI at *
      generalize pcI ((twP P S).map castP) = TI at *
      simp only [law04_RingStruck.B1,exF_seq,exF_region,exF_block,exF_cond,exF_skip,runL,wantL,stepL,evL,evC,LEnv.at,putL,loadFine,loadL,cellsAt,Trk.putNew,Trk.up,Trk.touch,Trk.gives,Trk.calm,Trk.hit,opdsOf,Trk.fresh,LEnv.keep,List.map_cons,List.map_nil,nbeq,nble,nblt,ofAV,ofAVs,bin_add,bin_eql,bin_lss,natL_nat,List.any_cons,List.any_nil,Bool.or_false,Bool.or_true,Bool.and_true,Bool.false_and,Bool.not_true,Bool.not_false,Nat.reduceEqDiff,decide_true,decide_false,cond_true,cond_false,List.filter_nil,Nat.reduceAdd,Nat.reduceLeDiff,reduceCtorEq,List.length_nil,List.length_cons,eq_self,List.append_nil,List.nil_append,LV.cells,allocL,List.getElem?_cons_zero,storeL,spliceL,List.take_zero,List.take_succ_cons,List.drop_zero,List.drop_succ_cons,List.drop_nil,List.take_nil,Nat.le_refl,LV.scalar,List.all_cons,List.all_nil,hkk,h2,Nat.zero_add,seg,ok,seg2,ok2,hshr,hand,c',set_last,get_last,hnl,he,Bool.xor_true,hw,hex]
def blkOf : LCode → LCode | .block _ b => b | c => c
def stQ : Nat → LCode
  | 0 => blkOf (cFst (cSnd (cSnd law04_RingStruck.B2)))
  | k + 1 => cSnd (stQ k)
noncomputable abbrev goOn (k : Nat) (r : Option (AExit × LEnv × LMem)) : Option (AExit × LEnv × LMem) := match r with
  | some (.normal,e',m') => exF LP (stQ k) e' m'
  | r => r
theorem stq0 (e : LEnv) (m : LMem) : exF LP (stQ 0) e m = goOn 1 (exF LP (cFst (stQ 0)) e m) := exF_seq _ _ _ _
theorem stq1 (e : LEnv) (m : LMem) : exF LP (stQ 1) e m = goOn 2 (exF LP (cFst (stQ 1)) e m) := exF_seq _ _ _ _
theorem stq2 (e : LEnv) (m : LMem) : exF LP (stQ 2) e m = goOn 3 (exF LP (cFst (stQ 2)) e m) := exF_seq _ _ _ _
theorem stq3 (e : LEnv) (m : LMem) : exF LP (stQ 3) e m = goOn 4 (exF LP (cFst (stQ 3)) e m) := exF_seq _ _ _ _
theorem stq4 (e : LEnv) (m : LMem) : exF LP (stQ 4) e m = goOn 5 (exF LP (cFst (stQ 4)) e m) := exF_seq _ _ _ _
theorem stq5 (e : LEnv) (m : LMem) : exF LP (stQ 5) e m = goOn 6 (exF LP (cFst (stQ 5)) e m) := exF_seq _ _ _ _
theorem stq6 (e : LEnv) (m : LMem) : exF LP (stQ 6) e m = goOn 7 (exF LP (cFst (stQ 6)) e m) := exF_seq _ _ _ _
theorem stq7 (e : LEnv) (m : LMem) : exF LP (stQ 7) e m = goOn 8 (exF LP (cFst (stQ 7)) e m) := exF_seq _ _ _ _
theorem stq8 (e : LEnv) (m : LMem) : exF LP (stQ 8) e m = goOn 9 (exF LP (cFst (stQ 8)) e m) := exF_seq _ _ _ _
theorem stq9 (e : LEnv) (m : LMem) : exF LP (stQ 9) e m = goOn 10 (exF LP (cFst (stQ 9)) e m) := exF_seq _ _ _ _
theorem st_A {n : Nat} {P : List (Nat × Nat)} (G : Good n P) (a b : Bool) (z : Nat) (M : LMem) (c1 : M[1]? = some ⟨[FN a b z P],true⟩) (S : Nat) (hS : S < 4096) (bv fb t37 : LV) :
    exF LP (stQ 0) (stE n P bv fb [(37,t37),(38,.int .u64 (S : Int)),(39,.bool true)]) M = if okS P S = true then exF LP (stQ 2) (stE n P bv fb [(10,.int .u64 (S : Int)),(37,t37),(38,.int .u64 (S : Int)),(47,.bool false)]) M else some (.exit 1,stE n P bv fb [(37,t37),(38,.int .u64 (S : Int))],M) := by
  have he := evr_lt G.le12
  have hand := bits_andNot (a := evr P) (b := S) (by omega) (by omega)
  have hal : andN (evr P) S < 2 ^ 12 := andN_lt _ _ 12 (by omega) (by omega)
  have hr := fun m => ringless_c G a b z (andN (evr P) S) hal m
  have hok : okS P S = decide (allR (subP P (andN (evr P) S)) = []) := rfl
  rw [← hok] at hr
  have e0 : exF LP (cFst (stQ 0)) (stE n P bv fb [(37,t37),(38,.int .u64 (S : Int)),(39,.bool true)]) M = some (.normal,stE n P bv fb [(10,.int .u64 (S : Int)),(37,t37),(38,.int .u64 (S : Int))],M) := by
    simp only [stQ,blkOf,cFst,cSnd,law04_RingStruck.B2,exF_region,runL,wantL,stepL,evL,LEnv.at,putL,loadFine,LEnv.keep,List.map_cons,List.map_nil,nbeq,Nat.reduceEqDiff,decide_true,decide_false,cond_true,cond_false,eq_self]
  rw [stq0,e0]
  show exF LP (stQ 1) _ _ = _
  rw [stq1]
  generalize FN a b z P = FP at *
  generalize (andN (evr P) S : Nat) = X at *
  cases c : okS P S
  · rw [c] at hr
    rw [if_neg (by simp)]
    have e1 : exF LP (cFst (stQ 1)) (stE n P bv fb [(10,.int .u64 (S : Int)),(37,t37),(38,.int .u64 (S : Int))]) M = some (.exit 1,stE n P bv fb [(37,t37),(38,.int .u64 (S : Int))],M) := by
      simp only [stQ,blkOf,cFst,cSnd,law04_RingStruck.B2,exF_seq,exF_region,exF_cond,exF_exit,runL,wantL,stepL,evL,evC,LEnv.at,putL,loadFine,loadL,cellsAt,Trk.putNew,Trk.up,Trk.touch,Trk.gives,Trk.calm,Trk.hit,opdsOf,Trk.fresh,LEnv.keep,List.map_cons,List.map_nil,nbeq,nble,ofAVs,List.any_cons,List.any_nil,Bool.or_false,Bool.false_or,Bool.true_or,Bool.and_true,Bool.not_false,Nat.reduceEqDiff,decide_true,decide_false,cond_true,cond_false,List.filter_nil,Nat.reduceAdd,Nat.reduceLeDiff,List.length_nil,List.length_cons,eq_self,List.append_nil,List.nil_append,unL,List.getElem?_cons_zero,List.take_succ_cons,List.drop_zero,List.take_nil,Nat.le_refl,c1,hand,hr]
    rw [e1]
  · rw [c] at hr
    rw [if_pos rfl]
    have e1 : exF LP (cFst (stQ 1)) (stE n P bv fb [(10,.int .u64 (S : Int)),(37,t37),(38,.int .u64 (S : Int))]) M = some (.normal,stE n P bv fb [(10,.int .u64 (S : Int)),(37,t37),(38,.int .u64 (S : Int)),(47,.bool false)],M) := by
      simp only [stQ,blkOf,cFst,cSnd,law04_RingStruck.B2,exF_seq,exF_region,exF_cond,exF_skip,runL,wantL,stepL,evL,evC,LEnv.at,putL,loadFine,loadL,cellsAt,Trk.putNew,Trk.up,Trk.touch,Trk.gives,Trk.calm,Trk.hit,opdsOf,Trk.fresh,LEnv.keep,List.map_cons,List.map_nil,nbeq,nble,ofAVs,List.any_cons,List.any_nil,Bool.or_false,Bool.false_or,Bool.true_or,Bool.and_true,Bool.not_true,Nat.reduceEqDiff,decide_true,decide_false,cond_true,cond_false,List.filter_nil,Nat.reduceAdd,Nat.reduceLeDiff,List.length_nil,List.length_cons,eq_self,List.append_nil,List.nil_append,unL,List.getElem?_cons_zero,List.take_succ_cons,List.drop_zero,List.take_nil,Nat.le_refl,c1,hand,hr]
    rw [e1]
theorem st_B {n : Nat} (P : List (Nat × Nat)) (M : LMem) (S : Nat) (hS : S < 4096) (bv fb t37 : LV) : ∃ oa ob oz,(numL S = [] ∨ (oa = false ∧ oz = 1)) ∧
    exF LP (stQ 2) (stE n P bv fb [(10,.int .u64 (S : Int)),(37,t37),(38,.int .u64 (S : Int)),(47,.bool false)]) M = exF LP (stQ 3) (stE n P bv fb [(10,.int .u64 (S : Int)),(11,IL oa ob oz (ci (numL S))),(37,t37),(38,.int .u64 (S : Int))]) M := by
  obtain ⟨oa,ob,oz,h1,h2⟩ := numbers_c hS
  refine ⟨oa,ob,oz,h1,?_⟩
  have e1 : exF LP (cFst (stQ 2)) (stE n P bv fb [(10,.int .u64 (S : Int)),(37,t37),(38,.int .u64 (S : Int)),(47,.bool false)]) M = some (.normal,stE n P bv fb [(10,.int .u64 (S : Int)),(11,IL oa ob oz (ci (numL S))),(37,t37),(38,.int .u64 (S : Int))],M) := by
    generalize IL oa ob oz (ci (numL S)) = ov at *
    simp only [stQ,blkOf,cFst,cSnd,law04_RingStruck.B2,exF_region,runL,wantL,stepL,evL,evC,LEnv.at,putL,loadFine,LEnv.keep,List.map_cons,List.map_nil,nbeq,ofAVs,Nat.reduceEqDiff,decide_true,decide_false,cond_true,cond_false,eq_self,List.append_nil,List.nil_append,h2]
  rw [stq2,e1]
theorem st_C {n : Nat} (P : List (Nat × Nat)) (M : LMem) (S : Nat) (R : List Nat) (hR : R.length < 1000) (oa ob : Bool) (oz : Nat) (s : Option (List Nat)) (hs : ∀ o,s = some o → o.length < 1000) (x y : Bool) (w : Nat) (t37 t38 : LV) : ∃ x' y' w',
    exF LP (stQ 3) (stE n P (IL x y w (ci (s.getD []))) (.bool s.isSome) [(10,.int .u64 (S : Int)),(11,IL oa ob oz (ci R)),(37,t37),(38,t38)]) M = exF LP (stQ 5) (stE n P (IL x' y' w' (ci ((bstS s R).getD []))) (.bool (bstS s R).isSome) [(10,.int .u64 (S : Int)),(11,IL oa ob oz (ci R)),(12,.bool true),(37,t37),(38,t38)]) M := by
  have hD : ∀ bv fb ov r,(r = [] ∨ r = [((71 : Nat),LV.bool false)]) → exF LP (stQ 4) (stE n P bv fb ((10,.int .u64 (S : Int)) :: (11,ov) :: (37,t37) :: (38,t38) :: r)) M = exF LP (stQ 5) (stE n P bv fb [(10,.int .u64 (S : Int)),(11,ov),(12,.bool true),(37,t37),(38,t38)]) M := by
    intro bv fb ov r hr
    rw [stq4]
    rcases hr with rfl | rfl
    all_goals simp only [stQ,blkOf,cFst,cSnd,law04_RingStruck.B2,exF_seq,exF_region,exF_block,exF_cond,exF_ret,exF_exit,exF_skip,runL,wantL,stepL,evL,evC,LEnv.at,putL,loadFine,loadL,cellsAt,Trk.calm,Trk.hit,Trk.fresh,LEnv.keep,List.map_cons,List.map_nil,nbeq,nble,ofAVs,lenL,List.any_nil,Bool.or_false,Bool.false_or,Bool.true_or,Bool.and_true,Bool.not_false,Nat.reduceEqDiff,decide_true,decide_false,cond_true,cond_false,Nat.reduceLeDiff,eq_self,List.append_nil,List.nil_append,unL,goOn]
  have hl1 : lenL (IL oa ob oz (ci R)) = some R.length := by rw [IL,ci_len]; rfl
  rw [stq3]
  cases s with
  | none =>
    refine ⟨oa,ob,oz,?_⟩
    rw [show bstS none R = some R from rfl]
    have e1 : exF LP (cFst (stQ 3)) (stE n P (IL x y w (ci ((none : Option (List Nat)).getD []))) (.bool (none : Option (List Nat)).isSome) [(10,.int .u64 (S : Int)),(11,IL oa ob oz (ci R)),(37,t37),(38,t38)]) M = some (.normal,stE n P (IL oa ob oz (ci R)) (.bool true) [(10,.int .u64 (S : Int)),(11,IL oa ob oz (ci R)),(37,t37),(38,t38)],M) := by
      generalize IL x y w (ci ((none : Option (List Nat)).getD [])) = bv at *
      generalize IL oa ob oz (ci R) = ov at *
      simp only [stQ,blkOf,cFst,cSnd,law04_RingStruck.B2,law04_RingStruck.B2.R0,beqF,exF_seq,exF_region,exF_cond,runL,wantL,stepL,evL,evC,LEnv.at,putL,loadFine,LEnv.keep,List.map_cons,List.map_nil,nbeq,Bool.not_true,Bool.not_false,Nat.reduceEqDiff,decide_true,decide_false,cond_true,cond_false,eq_self,unL,Option.isSome_none]
    rw [e1]
    exact hD _ _ _ [] (.inl rfl)
  | some o =>
    have ho := hs o rfl
    have hl2 : lenL (IL x y w (ci o)) = some o.length := by rw [IL,ci_len]; rfl
    have hcmp := fun m => compare_c oa ob x y oz w R o hR ho m
    have hb : bstS (some o) R = if btr R o = true then some R else some o := rfl
    rw [hb]
    simp only [Option.getD_some,Option.isSome_some]
    by_cases c1 : R.length < o.length
    · have c1' : (R.length : Int) < (o.length : Int) := by omega
      refine ⟨oa,ob,oz,?_⟩
      have e1 : exF LP (cFst (stQ 3)) (stE n P (IL x y w (ci o)) (.bool true) [(10,.int .u64 (S : Int)),(11,IL oa ob oz (ci R)),(37,t37),(38,t38)]) M = some (.normal,stE n P (IL oa ob oz (ci R)) (.bool true) [(10,.int .u64 (S : Int)),(11,IL oa ob oz (ci R)),(37,t37),(38,t38)],M) := by
        generalize IL x y w (ci o) = bv at *
        generalize IL oa ob oz (ci R) = ov at *
        simp only [stQ,blkOf,cFst,cSnd,law04_RingStruck.B2,law04_RingStruck.B2.R0,beqF,exF_seq,exF_region,exF_cond,runL,wantL,stepL,evL,evC,LEnv.at,putL,loadFine,LEnv.keep,List.map_cons,List.map_nil,nbeq,bin_lss,Bool.not_true,Bool.not_false,Nat.reduceEqDiff,decide_true,decide_false,cond_true,cond_false,eq_self,unL,hl1,hl2,c1']
      rw [e1,if_pos (by simp [btr,c1])]
      exact hD _ _ _ [] (.inl rfl)
    · have c1' : ¬ (R.length : Int) < (o.length : Int) := by omega
      by_cases c2 : R.length = o.length
      · have c2' : (R.length : Int) = (o.length : Int) := by omega
        by_cases c3 : cmpL R o < 0
        · refine ⟨oa,ob,oz,?_⟩
          have e1 : exF LP (cFst (stQ 3)) (stE n P (IL x y w (ci o)) (.bool true) [(10,.int .u64 (S : Int)),(11,IL oa ob oz (ci R)),(37,t37),(38,t38)]) M = some (.normal,stE n P (IL oa ob oz (ci R)) (.bool true) [(10,.int .u64 (S : Int)),(11,IL oa ob oz (ci R)),(37,t37),(38,t38)],M) := by
            generalize IL x y w (ci o) = bv at *
            generalize IL oa ob oz (ci R) = ov at *
            simp only [stQ,blkOf,cFst,cSnd,law04_RingStruck.B2,law04_RingStruck.B2.R0,beqT,beqF,exF_seq,exF_region,exF_cond,runL,wantL,stepL,evL,evC,LEnv.at,putL,loadFine,LEnv.keep,List.map_cons,List.map_nil,nbeq,ofAVs,bin_eql,bin_lss,Bool.not_true,Bool.not_false,Nat.reduceEqDiff,decide_true,decide_false,cond_true,cond_false,eq_self,List.append_nil,List.nil_append,unL,hl1,hl2,c2',hcmp,c3,Int.lt_irrefl]
          rw [e1,if_pos (by simp [btr,c2,c3])]
          exact hD _ _ _ [] (.inl rfl)
        · refine ⟨x,y,w,?_⟩
          have e1 : exF LP (cFst (stQ 3)) (stE n P (IL x y w (ci o)) (.bool true) [(10,.int .u64 (S : Int)),(11,IL oa ob oz (ci R)),(37,t37),(38,t38)]) M = some (.normal,stE n P (IL x y w (ci o)) (.bool true) [(10,.int .u64 (S : Int)),(11,IL oa ob oz (ci R)),(37,t37),(38,t38),(71,.bool false)],M) := by
            generalize IL x y w (ci o) = bv at *
            generalize IL oa ob oz (ci R) = ov at *
            simp only [stQ,blkOf,cFst,cSnd,law04_RingStruck.B2,law04_RingStruck.B2.R0,beqT,beqF,exF_seq,exF_region,exF_cond,exF_skip,runL,wantL,stepL,evL,evC,LEnv.at,putL,loadFine,LEnv.keep,List.map_cons,List.map_nil,nbeq,ofAVs,bin_eql,bin_lss,Bool.not_true,Bool.not_false,Nat.reduceEqDiff,decide_true,decide_false,cond_true,cond_false,eq_self,List.append_nil,List.nil_append,unL,hl1,hl2,c2',hcmp,c3,Int.lt_irrefl]
          rw [e1,if_neg (by simp [btr,c2,c3])]
          exact hD _ _ _ _ (.inr rfl)
      · have c2' : ¬ (R.length : Int) = (o.length : Int) := by omega
        refine ⟨x,y,w,?_⟩
        have e1 : exF LP (cFst (stQ 3)) (stE n P (IL x y w (ci o)) (.bool true) [(10,.int .u64 (S : Int)),(11,IL oa ob oz (ci R)),(37,t37),(38,t38)]) M = some (.normal,stE n P (IL x y w (ci o)) (.bool true) [(10,.int .u64 (S : Int)),(11,IL oa ob oz (ci R)),(37,t37),(38,t38),(71,.bool false)],M) := by
          generalize IL x y w (ci o) = bv at *
          generalize IL oa ob oz (ci R) = ov at *
          simp only [stQ,blkOf,cFst,cSnd,law04_RingStruck.B2,law04_RingStruck.B2.R0,beqT,beqF,exF_seq,exF_region,exF_cond,exF_skip,runL,wantL,stepL,evL,evC,LEnv.at,putL,loadFine,LEnv.keep,List.map_cons,List.map_nil,nbeq,bin_eql,bin_lss,Bool.not_true,Bool.not_false,Nat.reduceEqDiff,decide_true,decide_false,cond_true,cond_false,eq_self,unL,hl1,hl2,c1',c2']
        rw [e1,if_neg (by simp [btr,c1,c2])]
        exact hD _ _ _ _ (.inr rfl)
end Go.Am.Ring
