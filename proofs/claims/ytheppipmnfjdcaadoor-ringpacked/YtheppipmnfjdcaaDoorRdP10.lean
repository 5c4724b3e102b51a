import Derived.Test.YtheppipmnfjdcaaDoorRdC15
import Derived.Test.YtheppipmnfjdcaaDoorRdC25
set_option linter.unusedVariables false
set_option linter.unusedSimpArgs false
namespace Go.Am.Ring
def clF' (P : List (Nat × Nat)) (R : List Nat) : Bool := decide (2 ≤ R.length ∧ (∀ x ∈ R.tail,R.headD 0 ≤ x) ∧ cyF P R R.length 0 = true)
theorem closes_iff {n : Nat} {P : List (Nat × Nat)} (G : Good n P) {R : List Nat} (hlt : ∀ k ∈ R,k < P.length) : clF' P R = decide (R ∈ allR P) := by
  unfold clF'
  rw [decide_eq_decide,allR_mem G]
  by_cases hne : R = []
  · subst hne
    constructor
    · rintro ⟨h,_⟩; simp at h
    · rintro ⟨h,_⟩; exact absurd rfl h.ne
  · rw [cyc_iff hne hlt]
    obtain ⟨a,t,rfl⟩ := List.exists_cons_of_ne_nil hne
    constructor
    · rintro ⟨_,h2,h3⟩
      refine ⟨h3,fun k hk => ?_⟩
      have C := (cyc_iff hne hlt).2 h3
      have hnd := C.nd
      rw [List.map_cons,List.nodup_cons] at hnd
      have := h2 k hk
      have hka : k ≠ a := fun e => hnd.1 (List.mem_map.2 ⟨k,hk,by rw [e]⟩)
      show a < k
      have : a ≤ k := this
      omega
    · rintro ⟨h1,h2⟩
      refine ⟨?_,fun x hx => Nat.le_of_lt (h2 x hx),h1⟩
      have C := (cyc_iff hne hlt).2 h1
      cases t with
      | nil =>
        exfalso
        have := C.cl
        exact (st_lt G (hlt a (by simp))).2.2 this.symm
      | cons b t => simp
def LexB (x y : List Nat) : Prop := ∃ c i j s t,x = c ++ i :: s ∧ y = c ++ j :: t ∧ i < j
theorem ringsU_pre (P : List (Nat × Nat)) : ∀ (u : Nat) (b o : List Nat),o ∈ ringsU P u b → ∃ r,o = b ++ r
  | 0,b,o,h => by simp [ringsU] at h
  | u + 1,b,o,h => by
    rw [ringsU] at h
    split at h
    · exact ⟨[],by simpa using h⟩
    · obtain ⟨i,_,hi⟩ := List.mem_flatMap.1 h
      split at hi
      · obtain ⟨r,rfl⟩ := ringsU_pre P u _ o hi
        exact ⟨i :: r,by simp⟩
      · simp at hi
theorem pw_flat {f : Nat → List (List Nat)} {b : List Nat} (hf : ∀ i,(f i).Pairwise LexB) (hp : ∀ i,∀ o ∈ f i,∃ r,o = b ++ i :: r) : ∀ (l : List Nat),l.Pairwise (· < ·) → (l.flatMap f).Pairwise LexB
  | [],_ => List.Pairwise.nil
  | i :: l,h => by
    rw [List.pairwise_cons] at h
    rw [List.flatMap_cons,List.pairwise_append]
    refine ⟨hf i,pw_flat hf hp l h.2,fun x hx y hy => ?_⟩
    obtain ⟨j,hj,hy⟩ := List.mem_flatMap.1 hy
    obtain ⟨r,rfl⟩ := hp i x hx
    obtain ⟨s,rfl⟩ := hp j y hy
    exact ⟨b,i,j,r,s,rfl,rfl,h.1 j hj⟩
theorem ringsU_asc (P : List (Nat × Nat)) : ∀ (u : Nat) (b : List Nat),(ringsU P u b).Pairwise LexB
  | 0,b => by rw [ringsU]; exact List.Pairwise.nil
  | u + 1,b => by
    rw [ringsU]
    split
    · exact List.pairwise_singleton _ _
    · refine pw_flat (b := b) (fun i => ?_) (fun i o ho => ?_) _ List.pairwise_lt_range'
      · split
        · exact ringsU_asc P u _
        · exact List.Pairwise.nil
      · split at ho
        · obtain ⟨r,rfl⟩ := ringsU_pre P u _ o ho
          exact ⟨r,by simp⟩
        · simp at ho
theorem allR_asc (P : List (Nat × Nat)) : (allR P).Pairwise LexB := by
  refine pw_flat (b := []) (fun i => ringsU_asc P 6 [i]) (fun i o ho => ?_) _ List.pairwise_lt_range
  obtain ⟨r,rfl⟩ := ringsU_pre P 6 [i] o ho
  exact ⟨r,by simp⟩
def cmpL : List Nat → List Nat → Int
  | [],[] => 0
  | [],_ :: _ => -1
  | _ :: _,[] => 1
  | a :: x,b :: y => if a < b then -1 else if b < a then 1 else cmpL x y
theorem cmpL_lex {x y : List Nat} (h : LexB x y) : cmpL y x = 1 ∧ cmpL x y = -1 := by
  obtain ⟨c,i,j,s,t,rfl,rfl,hij⟩ := h
  induction c with
  | nil =>
    refine ⟨?_,?_⟩
    · rw [List.nil_append,List.nil_append,cmpL,if_neg (by omega),if_pos hij]
    · rw [List.nil_append,List.nil_append,cmpL,if_pos hij]
  | cons a c ih =>
    refine ⟨?_,?_⟩
    · rw [List.cons_append,List.cons_append,cmpL,if_neg (by omega),if_neg (by omega)]; exact ih.1
    · rw [List.cons_append,List.cons_append,cmpL,if_neg (by omega),if_neg (by omega)]; exact ih.2
end Go.Am.Ring
set_option linter.unusedVariables false
set_option linter.unusedSimpArgs false
set_option maxRecDepth 10000
namespace Go.Am.Ring
open Go.Am.G
theorem app_del2 (m : LMem) (i na nb n L : Nat) (A X B : List LV) (hA : A.length = na * 2) (hX : X.length = 2) (hB : B.length = nb * 2) (hn : n = na + 1 + nb) (hL : L = n * 2) (hs : n < 1000) (hsB : B.all LV.scalar = true) (c' : Nat) (h : m[i]? = some ⟨A ++ X ++ B,true⟩) :
    ∃ C,appendL m 2 16 (.sl i 0 na n 2 2 L) (.sl i ((na + 1) * 2) nb c' 2 2 L) = some (.sl i 0 (na + nb) n 2 2 L,m.set i ⟨C,true⟩) ∧ C.length = L ∧ C.take ((na + nb) * 2) = A ++ B := by
  have hlen : (A ++ X ++ B).length = L := by simp; omega
  have c1 : contents m 2 (.sl i 0 na n 2 2 L) = some (A,na) := by
    simp only [contents,h]
    simp only [nbeq,nble,hlen,Nat.zero_add,show na * 2 ≤ L by omega,decide_true,Bool.and_self,cond_true,List.drop_zero]
    congr 2
    rw [List.append_assoc,List.take_append_of_le_length (by omega),List.take_of_length_le (by omega)]
  have c2 : contents m 2 (.sl i ((na + 1) * 2) nb c' 2 2 L) = some (B,nb) := by
    simp only [contents,h]
    simp only [nbeq,nble,hlen,show (na + 1) * 2 + nb * 2 ≤ L by omega,decide_true,Bool.and_self,cond_true]
    congr 2
    have : (A ++ X).length = (na + 1) * 2 := by simp; omega
    rw [← this,List.drop_left,List.take_of_length_le (by omega)]
  by_cases hb : nb = 0
  · have hB0 : B = [] := List.length_eq_zero_iff.1 (by omega)
    subst hB0 hb
    refine ⟨A ++ X ++ [],?_,hlen,?_⟩
    · have hm : m.set i ⟨A ++ X ++ [],true⟩ = m := by
        apply List.ext_getElem?
        intro j
        rw [List.getElem?_set]
        by_cases hj : i = j
        · subst hj
          have hi := (List.getElem?_eq_some_iff.1 h).1
          simp only [if_true,hi]
          exact h.symm
        · simp [hj]
      rw [hm]
      unfold appendL
      simp only [c1,c2]
      simp [nbeq,nble,show na ≤ n by omega]
    · rw [List.append_nil,List.append_nil,Nat.add_zero,List.take_append_of_le_length (by omega),List.take_of_length_le (by omega)]
  · have hroom : (Nat.ble ((na + nb) * 16) roomMost && Nat.ble (na + nb) roomMost && B.all LV.scalar) = true := by
      rw [hsB]
      simp only [roomMost,nble,Bool.and_true,Bool.and_eq_true,decide_eq_true_eq]
      omega
    refine ⟨spliceL (A ++ X ++ B) (0 + na * 2) B,?_,?_,?_⟩
    · unfold appendL
      simp only [c1,c2,hroom,h]
      simp only [nbeq,hb,decide_false,cond_false,cond_true,nble,show na + nb ≤ n by omega,decide_true]
      simp [show (na + nb) * 2 ≤ L by omega]
      try omega
    · unfold spliceL
      simp only [List.length_append,List.length_take,List.length_drop]
      omega
    · unfold spliceL
      have e1 : (A ++ X ++ B).take (0 + na * 2) = A := by
        rw [List.append_assoc,List.take_append_of_le_length (by omega),List.take_of_length_le (by omega)]
      rw [e1,List.take_append_of_le_length (by simp; omega),List.take_of_length_le (by simp; omega)]
theorem delete2_c (m : LMem) (i na nb n L : Nat) (A X B : List LV) (hA : A.length = na * 2) (hX : X.length = 2) (hB : B.length = nb * 2) (hn : n = na + 1 + nb) (hL : L = n * 2) (hs : n < 1000) (hsB : B.all LV.scalar = true) (h : m[i]? = some ⟨A ++ X ++ B,true⟩) :
    clF LP n_slices_Delete_2_int_2_int [.sl i 0 n n 2 2 L,.int .i64 (na : Int),.int .i64 ((na + 1 : Nat) : Int)] m = some (.W,.sl i 0 (na + nb) n 2 2 L,m.set i ⟨A ++ B ++ [.int .i64 0,.int .i64 0],true⟩) := by
  obtain ⟨C,h1,h2,h3⟩ := app_del2 m i na nb n L A X B hA hX hB hn hL hs hsB (n - (na + 1)) h
  have hi := (List.getElem?_eq_some_iff.1 h).1
  have hcl : clrsL (m.set i ⟨C,true⟩) [.int .i64 0,.int .i64 0] (.sl i ((na + nb) * 2) 1 1 2 2 L) = some (m.set i ⟨A ++ B ++ [.int .i64 0,.int .i64 0],true⟩) := by
    simp only [clrsL,List.getElem?_set,if_true,hi,List.set_set]
    have e : (na + nb) * 2 + 1 * 2 ≤ L := by omega
    have hz : zerosL (ofAVs [.int .i64 0,.int .i64 0]) (1 * 2) = [.int .i64 0,.int .i64 0] := rfl
    have hd : C.drop ((na + nb) * 2 + 2) = [] := List.drop_eq_nil_of_le (by omega)
    simp only [nbeq,nble,h2,List.length_cons,List.length_nil,Nat.zero_add,Nat.reduceAdd,e,decide_true,List.all_cons,List.all_nil,AV.scalar,Bool.and_self,cond_true,spliceL,h3,hz,hd,List.append_nil]
  have ht : trim m.length [.sl i 0 (na + nb) n 2 2 L] (m.set i ⟨A ++ B ++ [.int .i64 0,.int .i64 0],true⟩) = m.set i ⟨A ++ B ++ [.int .i64 0,.int .i64 0],true⟩ := trim_le _ _ _ (by simp)
  conv => rhs; rw [← ht]
  refine call_W lp_slices_Delete_2_int_2_int rfl ?_
  have e1 : ¬ (na : Int) = ((na + 1 : Nat) : Int) := by omega
  have hb1 : n - (na + 1) = nb := by omega
  rw [hb1] at h1
  simp only [slices_Delete_2_int_2_int,slices_Delete_2_int_2_int.B,exF_seq,exF_region,exF_cond,exF_ret,exF_skip,runL,wantL,stepL,evL,evC,LEnv.at,putL,loadFine,LEnv.keep,LEnv.ofFrom,List.map_cons,List.map_nil,nbeq,nble,lenL,bin_eql,natL_nat,Nat.zero_mul,Bool.or_true,Bool.and_true,Bool.true_and,Nat.reduceEqDiff,decide_true,decide_false,cond_true,cond_false,Nat.reduceAdd,reduceCtorEq,eq_self,retL,resultsL,resAllL,resOfL,Nat.le_refl,sliceL,optNatL,Option.map_some,Option.map_none,Option.isSome_some,Option.isSome_none,Bool.or_true,show na + 1 ≤ n by omega,show na ≤ na + 1 by omega,e1,show na ≤ n by omega,hb1,Nat.zero_le,Nat.sub_zero,Nat.zero_add,natL_nat,h1]
  simp only [LEnv.at,nbeq,decide_true,decide_false,cond_true,cond_false,reduceCtorEq,eq_self,show na + nb ≤ n by omega,show n - (na + nb) = 1 by omega,hcl]
end Go.Am.Ring
set_option linter.unusedVariables false
set_option linter.unusedSimpArgs false
namespace Go.Am.Ring
theorem wo_app (S : List Nat) : ∀ (a b : List (Nat × Nat)) (k : Nat),woF S k (a ++ b) = woF S k a ++ woF S (k + a.length) b
  | [],b,k => by simp [woF]
  | p :: a,b,k => by
    rw [List.cons_append,woF,woF,wo_app S a b (k + 1),List.length_cons,show k + 1 + a.length = k + (a.length + 1) by omega]
    split <;> rfl
theorem wo_high (S : List Nat) : ∀ (l : List (Nat × Nat)) (k : Nat),(∀ x ∈ S,x < k) → woF S k l = l
  | [],k,_ => rfl
  | p :: r,k,h => by
    rw [woF,if_neg (fun c => by have := h k c; omega),wo_high S r (k + 1) fun x hx => by have := h x hx; omega]
theorem wo_low (S : List Nat) (j : Nat) : ∀ (l : List (Nat × Nat)) (k : Nat),k + l.length ≤ j → woF (S ++ [j]) k l = woF S k l
  | [],k,_ => rfl
  | p :: r,k,h => by
    simp at h
    rw [woF,woF,wo_low S j r (k + 1) (by omega)]
    have : (k ∈ S ++ [j]) ↔ k ∈ S := by simp; omega
    simp only [this]
theorem count_one : ∀ (S : List Nat) (k : Nat),S.Nodup → k ∈ S → S.count k = 1
  | [],k,_,h => by simp at h
  | a :: S,k,hn,h => by
    have hn := List.nodup_cons.1 hn
    rw [List.count_cons]
    by_cases c : a = k
    · subst c
      rw [List.count_eq_zero.2 hn.1]; simp
    · rcases List.mem_cons.1 h with h | h
      · exact absurd h.symm c
      · rw [count_one S k hn.2 h]; simp [c]
theorem wo_count (S : List Nat) (hS : S.Nodup) : ∀ (l : List (Nat × Nat)) (k : Nat),(woF S k l).length + S.countP (fun x => decide (k ≤ x ∧ x < k + l.length)) = l.length
  | [],k => by
    have : S.countP (fun x => decide (k ≤ x ∧ x < k + ([] : List (Nat × Nat)).length)) = 0 := by
      rw [List.countP_eq_zero]
      intro x _
      simp
    rw [this]; rfl
  | p :: r,k => by
    have ih := wo_count S hS r (k + 1)
    have e : S.countP (fun x => decide (k ≤ x ∧ x < k + (p :: r).length)) = S.count k + S.countP (fun x => decide (k + 1 ≤ x ∧ x < k + 1 + r.length)) := by
      clear ih hS
      induction S with
      | nil => rfl
      | cons a S ih =>
        rw [List.countP_cons,List.countP_cons,List.count_cons,ih]
        by_cases c : a = k
        · subst c
          have e3 : decide (a ≤ a ∧ a < a + (p :: r).length) = true := by simp
          have e4 : decide (a + 1 ≤ a ∧ a < a + 1 + r.length) = false := by rw [decide_eq_false_iff_not]; omega
          rw [e3,e4]
          simp only [beq_self_eq_true,if_true,Bool.false_eq_true,if_false]
          omega
        · have e1 : (a == k) = false := by simpa using c
          have e2 : (k ≤ a ∧ a < k + (p :: r).length) ↔ (k + 1 ≤ a ∧ a < k + 1 + r.length) := by simp; omega
          simp only [e1,e2]
          simp
          omega
    rw [e,woF]
    by_cases c : k ∈ S
    · rw [if_pos c,count_one S k hS c,List.length_cons]; omega
    · rw [if_neg c,List.count_eq_zero.2 c,List.length_cons,List.length_cons]; omega
theorem wo_split (P : List (Nat × Nat)) (S : List Nat) (hS : S.Nodup) (j : Nat) (hj : j < P.length) (h : ∀ x ∈ S,x < j) : ∃ A B,woF S 0 P = A ++ P[j] :: B ∧ woF (S ++ [j]) 0 P = A ++ B ∧ A.length + S.length = j := by
  have e : P = P.take j ++ P[j] :: P.drop (j + 1) := by rw [List.getElem_cons_drop,List.take_append_drop]
  have hl : (P.take j).length = j := by simp; omega
  refine ⟨woF S 0 (P.take j),P.drop (j + 1),?_,?_,?_⟩
  · conv => lhs; rw [e]
    rw [wo_app,hl,Nat.zero_add,wo_high S _ j h]
  · conv => lhs; rw [e]
    rw [wo_app,hl,Nat.zero_add,wo_low S j (P.take j) 0 (by omega),woF,if_pos (by simp),wo_high (S ++ [j]) _ (j + 1) (by
      intro x hx
      rcases List.mem_append.1 hx with hx | hx
      · have := h x hx; omega
      · rw [List.mem_singleton.1 hx]; omega)]
  · have := wo_count S hS (P.take j) 0
    have e2 : S.countP (fun x => decide (0 ≤ x ∧ x < 0 + (P.take j).length)) = S.length := by
      rw [List.countP_eq_length]
      intro x hx
      have := h x hx
      rw [hl]
      simpa using this
    rw [e2,hl] at this
    exact this
end Go.Am.Ring
set_option linter.unusedVariables false
set_option linter.unusedSimpArgs false
set_option maxRecDepth 10000
namespace Go.Am.Ring
open Go.Am.G
def LV2 (m : LMem) (v : LV) (ib : Nat) (l : List (Nat × Nat)) : Prop :=
  ∃ cap L Z w,v = .sl ib 0 l.length cap 2 2 L ∧ m[ib]? = some ⟨Pcs l ++ Z,w⟩ ∧ (Pcs l ++ Z).length = L ∧ l.length ≤ cap
theorem LV2.view {m : LMem} {v : LV} {ib : Nat} {l : List (Nat × Nat)} (h : LV2 m v ib l) : ∃ ex,∀ k,view (k + 3) m v = some (FN false ex 2 l,[ib]) := by
  obtain ⟨cap,L,Z,w,rfl,hm,hL,hc⟩ := h
  have hp := Pcs_len l
  have hlen : (Pcs l ++ Z).length = l.length * 2 + Z.length := by rw [List.length_append,hp]
  have htk : (Pcs l ++ Z).take (l.length * 2) = Pcs l := by rw [List.take_append_of_le_length (by omega),List.take_of_length_le (by omega)]
  refine ⟨Nat.beq 2 0 && Nat.beq cap l.length,fun k => ?_⟩
  have := view_slc k m ib 0 l.length L 2 cap 2 (Pcs l ++ Z) w hm (by rw [List.drop_zero,htk]; exact Pcs_pures l) hL (by omega) hc
  rw [List.drop_zero,htk] at this
  simp only [FN_eq]
  exact this
theorem views_fill {m : LMem} {v : LV} {ib : Nat} {l : List (Nat × Nat)} (n : Nat) (ex : Bool) (h : ∀ k,Go.Am.view (k + 3) m v = some (FN false ex 2 l,[ib])) (hv : v.pure = false) : views m [.int .i64 (n : Int),v,.func n_ring_anyForm [] []] = some ([.int .i64 (n : Int),FN false ex 2 l,.func n_ring_anyForm [] []],[ib]) := by
  show viewL 100 m _ = _
  rw [viewL.eq_def]
  simp only [show LV.pures [.int .i64 (n : Int),v,.func n_ring_anyForm [] []] = false by simp [LV.pures,LV.pure,hv],cond_false]
  rw [viewC.eq_def]
  simp only [view_pure 96 m (.int .i64 (n : Int)) rfl]
  rw [viewC.eq_def]
  simp only [h 94]
  rw [viewC.eq_def]
  simp only [view_pure 94 m (.func n_ring_anyForm [] []) rfl]
  rw [viewC.eq_def]
  rfl
theorem clone2_m {args : List LV} {ids : List Nat} {m : LMem} (ex : Bool) (l : List (Int × Int)) (hl : l.length < 1000) (hne : l ≠ []) (hv : views m args = some ([FL false ex 2 l],ids)) : clF LP n_slices_Clone_2_int_2_int args m = some (.O,.sl m.length 0 l.length l.length 2 2 (l.length * 2),m ++ [⟨pcI l,true⟩]) := by
  have h0 : ¬ l.length = 0 := by simpa using hne
  have hr1 : l.length * 16 ≤ roomMost := by unfold roomMost; omega
  have hr2 : l.length ≤ roomMost := by unfold roomMost; omega
  have hsc : (pcI l).all LV.scalar = true := by
    clear hv hl hne h0 hr1 hr2
    induction l with
    | nil => rfl
    | cons a r ih => exact ih
  have hpl := pcI_len l
  have hshift : ∀ n,LV.shifts n (pcI l) = pcI l := by
    intro n
    rw [pcI]
    clear hv hl hne h0 hr1 hr2 hsc hpl
    induction l with
    | nil => rfl
    | cons a r ih => rw [List.flatMap_cons]; simp only [pc,List.cons_append,List.nil_append,LV.shifts,LV.shift,ih]
  have hsolid : LV.solids (pcI l) = true := by
    rw [pcI]
    clear hv hl hne h0 hr1 hr2 hsc hpl hshift
    induction l with
    | nil => rfl
    | cons a r ih => rw [List.flatMap_cons]; simp only [pc,List.cons_append,List.nil_append,LV.solids,LV.solid,ih,Bool.true_and]
  rw [clF_eq,lp_slices_Clone_2_int_2_int]
  simp only [callMode,slices_Clone_2_int_2_int,hv]
  simp only [slices_Clone_2_int_2_int.B,exF_seq,exF_region,exF_cond,exF_ret,exF_skip,runL,wantL,stepL,evL,evC,LEnv.at,putL,loadFine,LEnv.keep,LEnv.ofFrom,List.map_cons,List.map_nil,nbeq,nble,ofAVs,Nat.zero_mul,Bool.or_false,Bool.or_true,Bool.and_true,Nat.reduceEqDiff,decide_true,decide_false,cond_true,cond_false,reduceCtorEq,List.length_nil,eq_self,retL,resultsL,resAllL,resOfL,List.nil_append,freeze,Nat.reduceDiv,List.take_nil,List.all_cons,List.all_nil,fillL,nilOf,eqsL,Bool.xor_false,LV.shift,newOnly,LV.solid,appendL,contents,views,viewL,h0,hr1,hr2,hsc,newSl,Nat.zero_add,hshift,hsolid]
theorem filled_m {m : LMem} {v : LV} {ib : Nat} {l : List (Nat × Nat)} (n : Nat) (G : Good n l) (h : LV2 m v ib l) : ∃ m',clF LP n_ring_filled [.int .i64 (n : Int),v,.func n_ring_anyForm [] []] m = some (.P,.elt (tabA n l) 0,m') ∧ (∀ i,i ≠ ib → m'[i]? = m[i]?) ∧ m'.length = m.length ∧ LV2 m' v ib l := by
  obtain ⟨ex,hv⟩ := h.view
  obtain ⟨cap,L,Z,w,rfl,hm,hL,hc⟩ := h
  obtain ⟨m',h1,h2,h3,h4⟩ := call_shown2 lp_ring_filled rfl (views_fill n ex hv rfl) (by simp [LV.pures,LV.pure]) (filledA_c n l G false ex 2 [])
  obtain ⟨w',hm'⟩ := h4 ib _ _ hm
  exact ⟨m',h1,fun i hi => h2 i (by simpa using hi),h3,cap,L,Z,w',rfl,hm',hL,hc⟩
theorem LV2.mono {m m' : LMem} {v : LV} {ib : Nat} {l : List (Nat × Nat)} (h : LV2 m v ib l) (e : m'[ib]? = m[ib]?) : LV2 m' v ib l := by
  obtain ⟨cap,L,Z,w,h1,h2,h3,h4⟩ := h
  exact ⟨cap,L,Z,w,h1,by rw [e]; exact h2,h3,h4⟩
theorem LV2.lt {m : LMem} {v : LV} {ib : Nat} {l : List (Nat × Nat)} (h : LV2 m v ib l) : ib < m.length := by
  obtain ⟨cap,L,Z,w,h1,h2,h3,h4⟩ := h
  rcases Nat.lt_or_ge ib m.length with c | c
  · exact c
  · rw [List.getElem?_eq_none c] at h2; cases h2
theorem Pcs_app (a b : List (Nat × Nat)) : Pcs (a ++ b) = Pcs a ++ Pcs b := by simp [Pcs,pcI]
theorem strike_ploop (n : Nat) (P : List (Nat × Nat)) (G : Good n P) (d : Nat) : ∀ (i : Nat) (b : List Nat) (M : LMem) (vo v : LV) (ib : Nat),i + d = P.length → b.Nodup → (∀ x ∈ b,x < i) → Lst M vo 1 b.length ((ci b).map (LV.int .i64)) → LV2 M v ib (wS P b) → ¬ isBlk vo ib →
    ∃ vo' M',exF LP ring_Strike.L0 [(0,.int .i64 (n : Int)),(7,vo),(8,v),(22,.int .i64 (P.length : Int)),(23,.int .i64 (i : Int))] M = some (.exit 0,[(7,vo')],M') ∧ Lst M' vo' 1 (strG n P d i b).length ((ci (strG n P d i b)).map (LV.int .i64)) := by
  have h12 := G.le12
  induction d with
  | zero =>
    intro i b M vo v ib hi hnd hb hL hV hne
    refine ⟨vo,M,?_,hL⟩
    rw [ring_Strike.L0_eq]
    simp only [ring_Strike.B0,exF_seq,exF_region,exF_cond,exF_exit,runL,wantL,stepL,evL,LEnv.at,putL,loadFine,LEnv.keep,List.map_cons,List.map_nil,nbeq,bin_lss,Nat.reduceEqDiff,decide_true,decide_false,cond_true,cond_false,reduceCtorEq,eq_self,show ¬ ((i : Int) < (P.length : Int)) by omega]
  | succ d ih =>
    intro i b M vo v ib hi hnd hb hL hV hne
    have h2 : i < P.length := by omega
    have hii : (i : Int) < (P.length : Int) := by omega
    have hs := wrap_succ (show i + 1 < 9223372036854775808 by omega)
    obtain ⟨A,B,eA,eB,hAl⟩ := wo_split P b hnd i h2 hb
    have G1 := good_wo G b 0
    have G2 := good_wo G (b ++ [i]) 0
    obtain ⟨M1,f1,k1,l1,V1⟩ := filled_m n G1 hV
    obtain ⟨ex,hv⟩ := V1.view
    have hvp : LV.pures [v] = false := by
      obtain ⟨cap,L,Z,w,rfl,_⟩ := hV
      rfl
    have hv1 := views_one 92 M1 v _ _ hv hvp
    have hlen : (wS P b).length = A.length + 1 + B.length := by rw [wS,eA]; simp; omega
    have hle : (wS P b).length ≤ P.length := woF_len b P 0
    have hcl := clone2_m (args := [v]) (m := M1) ex ((wS P b).map castP) (by rw [List.length_map]; omega) (by
      intro c
      have := congrArg List.length c
      rw [List.length_map,hlen] at this
      simp at this) hv1
    rw [List.length_map] at hcl
    have hblk : (M1 ++ [⟨pcI ((wS P b).map castP),true⟩])[M1.length]? = some ⟨Pcs A ++ Pcs [P[i]] ++ Pcs B,true⟩ := by
      rw [last_at,wS,eA]
      have : pcI ((A ++ P[i] :: B).map castP) = Pcs A ++ Pcs [P[i]] ++ Pcs B := by
        have e := Pcs_app (A ++ [P[i]]) B
        rw [Pcs_app A [P[i]]] at e
        rw [show A ++ P[i] :: B = A ++ [P[i]] ++ B by simp]
        exact e
      rw [this]
    have hdel := delete2_c (M1 ++ [⟨pcI ((wS P b).map castP),true⟩]) M1.length A.length B.length (wS P b).length ((wS P b).length * 2) (Pcs A) (Pcs [P[i]]) (Pcs B) (Pcs_len A) (Pcs_len [P[i]]) (Pcs_len B) hlen rfl (by omega) (Pcs_scalar B) hblk
    rw [last_set] at hdel
    have hV3 : LV2 (M1 ++ [⟨Pcs A ++ Pcs B ++ [.int .i64 0,.int .i64 0],true⟩]) (.sl M1.length 0 (A.length + B.length) (wS P b).length 2 2 ((wS P b).length * 2)) M1.length (wS P (b ++ [i])) := by
      have hl2 : (wS P (b ++ [i])).length = A.length + B.length := by rw [wS,eB]; simp
      refine ⟨(wS P b).length,(wS P b).length * 2,[.int .i64 0,.int .i64 0],true,by rw [hl2],?_,?_,by omega⟩
      · rw [last_at,wS,eB,Pcs_app]
      · rw [List.length_append,Pcs_len,hl2]
        simp; omega
    obtain ⟨M4,f2,k4,l4,V4⟩ := filled_m n G2 hV3
    have hibl := hV.lt
    have hM3l : (M1 ++ [⟨Pcs A ++ Pcs B ++ [.int .i64 0,.int .i64 0],true⟩] : LMem).length = M.length + 1 := by simp [l1]
    have hL4 : Lst M4 vo 1 b.length ((ci b).map (LV.int .i64)) := hL.mono fun j hj => by
      have h1 := hL.lt j hj
      have h3 : j ≠ ib := fun e => hne (e ▸ hj)
      rw [k4 j (by omega),List.getElem?_append_left (by omega),k1 j h3]
    have hwat : IntKind.i64.wrap ((i : Int) - (b.length : Int)) = (A.length : Int) := by rw [wrap_in (by omega)]; omega
    have hwat1 : IntKind.i64.wrap ((A.length : Int) + 1) = ((A.length + 1 : Nat) : Int) := wrap_succ (by omega)
    have h38 := tab_38 n (wS P b) anyM n_ring_anyForm [] []
    have hat := tF_at anyM (wS P b) n 0 (Nat.two_pow_pos n)
    have h38b := tab_38 n (wS P (b ++ [i])) anyM n_ring_anyForm [] []
    have hatb := tF_at anyM (wS P (b ++ [i])) n 0 (Nat.two_pow_pos n)
    have hpos := Nat.two_pow_pos n
    have hlo := hL.lenL
    rw [ring_Strike.L0_eq,strG]
    by_cases c : FS n P (b ++ [i]) < FS n P b
    · rw [if_pos c]
      have c' : (((fwD anyM (wS P (b ++ [i])) n 0).1 : Nat) : Int) < (((fwD anyM (wS P b) n 0).1 : Nat) : Int) := by
        have : (fwD anyM (wS P (b ++ [i])) n 0).1 < (fwD anyM (wS P b) n 0).1 := c
        omega
      obtain ⟨vo5,M5,hap,hL5,k5,l5,b5⟩ := hL4.append (x := .lst false true 1 1 [.int .i64 (i : Int)]) (k := 1) (news := [.int .i64 (i : Int)]) (bytes := 8) (by simp [contents,nbeq]) rfl (by omega) (by omega) rfl
      have hL5 : Lst M5 vo5 1 (b ++ [i]).length ((ci (b ++ [i])).map (LV.int .i64)) := by simpa using hL5
      have hn1 : ¬ isBlk vo M1.length := fun h => by have := hL.lt _ h; omega
      have V5 := V4.mono (m' := M5) (k5 M1.length (by rw [l4,hM3l]; omega) hn1)
      obtain ⟨vo',M',hex,hL'⟩ := ih (i + 1) (b ++ [i]) M5 vo5 _ M1.length (by omega) (by
        rw [List.nodup_append]
        refine ⟨hnd,by simp,?_⟩
        intro x hx y hy
        simp at hy
        have := hb x hx
        omega) (by
        intro x hx
        rcases List.mem_append.1 hx with hx | hx
        · have := hb x hx; omega
        · rw [List.mem_singleton.1 hx]; omega) hL5 V5 (fun h => by
        rcases b5 _ h with h | h
        · exact hn1 h
        · rw [l4,hM3l] at h; omega)
      refine ⟨vo',M',?_,hL'⟩
      simp only [ring_Strike.B0,exF_seq,exF_region,exF_block,exF_cond,exF_skip,runL,wantL,stepL,evL,evC,LEnv.at,putL,loadFine,loadL,cellsAt,Trk.putNew,Trk.up,Trk.touch,Trk.gives,Trk.calm,opdsOf,Trk.fresh,LEnv.keep,List.map_cons,List.map_nil,nbeq,nble,nblt,ofAV,ofAVs,bin_add,bin_sub,bin_lss,natL_zero,List.any_cons,List.any_nil,Bool.or_false,Bool.true_or,Bool.and_true,Bool.true_and,Bool.not_true,Bool.not_false,Nat.reduceEqDiff,decide_true,decide_false,cond_true,cond_false,List.filter_nil,List.filter_cons,Nat.reduceAdd,Nat.reduceLeDiff,reduceCtorEq,List.length_nil,List.length_cons,Nat.mul_one,if_true,eq_self,List.append_nil,List.nil_append,views_pures,LV.pures,LV.pure,freeze,Nat.reduceDiv,LV.cells,spliceL,List.take_zero,List.take_succ_cons,List.drop_zero,List.drop_succ_cons,List.drop_nil,List.take_nil,Nat.le_refl,fillL,List.length_append,hii,f1,Nat.zero_add,h38,hpos,hat,hlo,hwat,hcl,hwat1,hdel,f2,h38b,hatb,c',hap,hs,hex]
    · rw [if_neg c]
      have c' : ¬ (((fwD anyM (wS P (b ++ [i])) n 0).1 : Nat) : Int) < (((fwD anyM (wS P b) n 0).1 : Nat) : Int) := by
        have : ¬ (fwD anyM (wS P (b ++ [i])) n 0).1 < (fwD anyM (wS P b) n 0).1 := c
        omega
      have V6 := V1.mono (m' := M4) (by rw [k4 ib (by omega),List.getElem?_append_left (by omega)])
      obtain ⟨vo',M',hex,hL'⟩ := ih (i + 1) b M4 vo v ib (by omega) hnd (fun x hx => by have := hb x hx; omega) hL4 V6 hne
      refine ⟨vo',M',?_,hL'⟩
      simp only [ring_Strike.B0,exF_seq,exF_region,exF_block,exF_cond,exF_skip,runL,wantL,stepL,evL,evC,LEnv.at,putL,loadFine,loadL,cellsAt,Trk.putNew,Trk.up,Trk.touch,Trk.gives,Trk.calm,opdsOf,Trk.fresh,LEnv.keep,List.map_cons,List.map_nil,nbeq,nble,nblt,ofAVs,bin_add,bin_sub,bin_lss,natL_zero,List.any_cons,List.any_nil,Bool.or_false,Bool.true_or,Bool.and_true,Bool.true_and,Bool.not_true,Bool.not_false,Nat.reduceEqDiff,decide_true,decide_false,cond_true,cond_false,List.filter_nil,List.filter_cons,Nat.reduceAdd,Nat.reduceLeDiff,reduceCtorEq,List.length_nil,List.length_cons,Nat.mul_one,if_true,eq_self,List.append_nil,List.nil_append,List.drop_zero,List.length_append,hii,f1,Nat.zero_add,h38,hpos,hat,hlo,hwat,hcl,hwat1,hdel,f2,h38b,hatb,c',hs,hex]
end Go.Am.Ring
