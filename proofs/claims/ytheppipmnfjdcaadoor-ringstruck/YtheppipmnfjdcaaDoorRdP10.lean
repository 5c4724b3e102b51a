import Derived.Test.YtheppipmnfjdcaaDoorRdP9
import Derived.Test.YtheppipmnfjdcaaDoorRdC28
set_option linter.unusedVariables false
set_option linter.unusedSimpArgs false
namespace Go.Am.Ring
def subP (P : List (Nat × Nat)) (S : Nat) : List (Nat × Nat) := ((List.range P.length).filter fun i => S.testBit i).map fun i => P.getD i (0,0)
theorem subP_mem {P : List (Nat × Nat)} {S : Nat} {p : Nat × Nat} : p ∈ subP P S ↔ ∃ i,i < P.length ∧ S.testBit i = true ∧ (st P i,en P i) = p := by
  simp only [subP,List.mem_map,List.mem_filter,List.mem_range,st,en]
  constructor
  · rintro ⟨i,⟨h1,h2⟩,h3⟩; exact ⟨i,h1,h2,h3⟩
  · rintro ⟨i,h1,h2,h3⟩; exact ⟨i,⟨h1,h2⟩,h3⟩
theorem subP_good {n : Nat} {P : List (Nat × Nat)} (G : Good n P) (S : Nat) : Good n (subP P S) := by
  refine ⟨G.pos,G.le6,?_,fun p hp => ?_,fun p hp => ?_⟩
  · unfold subP
    rw [List.length_map]
    have := List.length_filter_le (fun i => S.testBit i) (List.range P.length)
    rw [List.length_range] at this
    have := G.le12
    omega
  · obtain ⟨i,h1,_,rfl⟩ := subP_mem.1 hp
    have := st_lt G h1
    exact ⟨this.1,this.2.1⟩
  · obtain ⟨i,h1,_,rfl⟩ := subP_mem.1 hp
    exact (st_lt G h1).2.2
theorem subP_all (P : List (Nat × Nat)) : subP P (2 ^ P.length - 1) = P := by
  unfold subP
  have : (List.range P.length).filter (fun i => (2 ^ P.length - 1).testBit i) = List.range P.length := by
    rw [List.filter_eq_self]
    intro i hi
    rw [Nat.testBit_two_pow_sub_one]
    simpa using hi
  rw [this]
  apply List.ext_getElem?
  intro i
  rw [List.getElem?_map]
  by_cases h : i < P.length
  · rw [List.getElem?_range h,List.getElem?_eq_getElem h,Option.map_some,getD_at P i _ h]
  · rw [List.getElem?_eq_none (by simp; omega),List.getElem?_eq_none (by omega)]; rfl
def latK (P : List (Nat × Nat)) (S left k : Nat) : Nat := (List.range k).foldl (fun a i => if S.testBit i = true ∧ left.testBit (st P i) = true then a ||| 2 ^ en P i else a) 0
theorem latK_succ (P : List (Nat × Nat)) (S left k : Nat) : latK P S left (k + 1) = if S.testBit k = true ∧ left.testBit (st P k) = true then latK P S left k ||| 2 ^ en P k else latK P S left k := by
  simp [latK,List.range_succ]
abbrev latN (P : List (Nat × Nat)) (S left : Nat) : Nat := latK P S left P.length
theorem latK_bit (P : List (Nat × Nat)) (S left x : Nat) : ∀ k,(latK P S left k).testBit x = true ↔ ∃ i,i < k ∧ S.testBit i = true ∧ left.testBit (st P i) = true ∧ en P i = x
  | 0 => by simp [latK]
  | k + 1 => by
    rw [latK_succ]
    have ih := latK_bit P S left x k
    split
    · rename_i h
      rw [Nat.testBit_or,Nat.testBit_two_pow,Bool.or_eq_true,ih,decide_eq_true_eq]
      constructor
      · rintro (⟨i,h1,h2⟩ | h1)
        · exact ⟨i,by omega,h2⟩
        · exact ⟨k,by omega,h.1,h.2,h1⟩
      · rintro ⟨i,h1,h2,h3,h4⟩
        rcases Nat.lt_or_eq_of_le (Nat.le_of_lt_succ h1) with h5 | h5
        · exact .inl ⟨i,h5,h2,h3,h4⟩
        · subst h5; exact .inr h4
    · rename_i h
      rw [ih]
      constructor
      · rintro ⟨i,h1,h2⟩
        exact ⟨i,by omega,h2⟩
      · rintro ⟨i,h1,h2,h3,h4⟩
        rcases Nat.lt_or_eq_of_le (Nat.le_of_lt_succ h1) with h5 | h5
        · exact ⟨i,h5,h2,h3,h4⟩
        · subst h5; exact absurd ⟨h2,h3⟩ h
theorem latK_lt {n : Nat} {P : List (Nat × Nat)} (G : Good n P) (S left : Nat) : ∀ k,k ≤ P.length → latK P S left k < 64
  | 0,_ => by simp [latK]
  | k + 1,h => by
    have ih := latK_lt G S left k (by omega)
    rw [latK_succ]
    split
    · have := (st_lt G (show k < P.length by omega)).2.1
      have := G.le6
      exact Nat.or_lt_two_pow (n := 6) ih (Nat.pow_lt_pow_right (by omega) (by omega))
    · exact ih
def rlF (P : List (Nat × Nat)) (S : Nat) : Nat → Nat → Bool
  | 0,_ => true
  | u + 1,left => if left = 0 then true else if left &&& latN P S left = left then false else rlF P S u (left &&& latN P S left)
theorem and_le (a b : Nat) : a &&& b ≤ a := Nat.and_le_left
theorem rlF_ring {n : Nat} {P : List (Nat × Nat)} (G : Good n P) (S : Nat) : ∀ (u left : Nat),left < 2 ^ n → left ≤ u → (rlF P S u left = true ↔ ¬ ∃ c,Cyc (subP P S) c ∧ ∀ k ∈ c,left.testBit (st (subP P S) k) = true)
  | 0,left,_,h => by
    obtain rfl : left = 0 := by omega
    simp only [rlF,true_iff]
    rintro ⟨c,C,h⟩
    obtain ⟨k,r,rfl⟩ := List.exists_cons_of_ne_nil C.ne
    have := h k (by simp)
    simp at this
  | u + 1,left,hl,hu => by
    have GS := subP_good G S
    rw [rlF]
    split
    · rename_i h0
      subst h0
      simp only [true_iff]
      rintro ⟨c,C,h⟩
      obtain ⟨k,r,rfl⟩ := List.exists_cons_of_ne_nil C.ne
      have := h k (by simp)
      simp at this
    · rename_i h0
      have hlat : ∀ x,(latN P S left).testBit x = true ↔ ∃ k,k < (subP P S).length ∧ en (subP P S) k = x ∧ left.testBit (st (subP P S) k) = true := by
        intro x
        rw [latN,latK_bit]
        constructor
        · rintro ⟨i,h1,h2,h3,h4⟩
          have hm : (st P i,en P i) ∈ subP P S := subP_mem.2 ⟨i,h1,h2,rfl⟩
          obtain ⟨k,hk,e⟩ := List.getElem_of_mem hm
          refine ⟨k,hk,?_,?_⟩
          · rw [en,getD_at _ k _ hk,e]; exact h4
          · rw [st,getD_at _ k _ hk,e]; exact h3
        · rintro ⟨k,hk,h1,h2⟩
          obtain ⟨i,h3,h4,h5⟩ := subP_mem.1 (List.getElem_mem hk)
          rw [en,getD_at _ k _ hk,← h5] at h1
          rw [st,getD_at _ k _ hk,← h5] at h2
          exact ⟨i,h3,h4,h2,h1⟩
      split
      · rename_i h1
        simp only [Bool.false_eq_true,false_iff,Decidable.not_not]
        -- each form that is left is told to be later than one that is left
        have hsub : ∀ x,left.testBit x = true → (latN P S left).testBit x = true := by
          intro x hx
          have := congrArg (·.testBit x) h1
          simp only [Nat.testBit_and,hx,Bool.true_and] at this
          exact this
        obtain ⟨x0,hx0⟩ : ∃ x,left.testBit x = true := by
          rcases Classical.em (∃ x,left.testBit x = true) with h | h
          · exact h
          · exfalso
            apply h0
            apply Nat.eq_of_testBit_eq
            intro x
            rw [Nat.zero_testBit]
            cases hb : left.testBit x
            · rfl
            · exact absurd ⟨x,hb⟩ h
        have hxn : ∀ x,left.testBit x = true → x < n := fun x hx => by
          rcases Nat.lt_or_ge x n with h | h
          · exact h
          · rw [Nat.testBit_lt_two_pow (Nat.lt_of_lt_of_le hl (Nat.pow_le_pow_right (by omega) h))] at hx; cases hx
        obtain ⟨k0,hk0,e0,l0⟩ := (hlat x0).1 (hsub x0 hx0)
        exact not_not_intro (cyc_left GS hsub hlat hxn k0 hk0 l0)
      · rename_i h1
        have hlt : left &&& latN P S left < left := by
          have := and_le left (latN P S left)
          omega
        rw [rlF_ring G S u _ (Nat.lt_of_le_of_lt (and_le _ _) hl) (by omega)]
        refine not_congr ⟨?_,?_⟩
        · rintro ⟨c,C,h⟩
          refine ⟨c,C,fun k hk => ?_⟩
          have := h k hk
          rw [Nat.testBit_and,Bool.and_eq_true] at this
          exact this.1
        · rintro ⟨c,C,h⟩
          refine ⟨c,C,fun k hk => ?_⟩
          rw [Nat.testBit_and,Bool.and_eq_true]
          refine ⟨h k hk,(hlat _).2 ?_⟩
          -- the find before it in the ring
          obtain ⟨i,hi,rfl⟩ := List.getElem_of_mem hk
          have hpos : 0 < c.length := by omega
          cases i with
          | zero =>
            have hll : c.length - 1 < c.length := by omega
            refine ⟨c[c.length - 1],C.lt _ (List.getElem_mem _),?_,h _ (List.getElem_mem _)⟩
            rw [last_el c hll,C.cl,← head_at c hpos]
          | succ i =>
            refine ⟨c[i],C.lt _ (List.getElem_mem _),(chain_iff c).1 C.ch i hi,h _ (List.getElem_mem _)⟩
where
  cyc_left {n : Nat} {Q : List (Nat × Nat)} (GS : Good n Q) {left : Nat} {lat : Nat} (hsub : ∀ x,left.testBit x = true → lat.testBit x = true) (hlat : ∀ x,lat.testBit x = true ↔ ∃ k,k < Q.length ∧ en Q k = x ∧ left.testBit (st Q k) = true) (hxn : ∀ x,left.testBit x = true → x < n) (k0 : Nat) (hk0 : k0 < Q.length) (l0 : left.testBit (st Q k0) = true) : ∃ c,Cyc Q c ∧ ∀ k ∈ c,left.testBit (st Q k) = true := by
    -- going back,a form is met again
    have key : ∀ (u : Nat) (b : List Nat),Beg n Q b → Chain Q b → (∀ k ∈ b,left.testBit (st Q k) = true) → b.length + u = n + 1 → ∃ c,Cyc Q c ∧ ∀ k ∈ c,left.testBit (st Q k) = true := by
      intro u
      induction u with
      | zero =>
        intro b B _ _ hu
        exfalso
        have := nodup_le (b.map (st Q)) (List.range n) B.nd (fun x hx => by
          obtain ⟨k,hk,rfl⟩ := List.mem_map.1 hx
          exact List.mem_range.2 (st_lt GS (B.lt k hk)).1)
        simp at this; omega
      | succ u ih =>
        intro b B hch hb hu
        have hpos : 0 < b.length := List.length_pos_iff.2 B.ne
        have hh : b.headD 0 ∈ b := by rw [← head_at b hpos]; exact List.getElem_mem _
        obtain ⟨k,hk,e1,e2⟩ := (hlat (st Q (b.headD 0))).1 (hsub _ (hb _ hh))
        by_cases hf : st Q k ∈ b.map (st Q)
        · -- it closes
          obtain ⟨y,hy,e3⟩ := List.mem_map.1 hf
          obtain ⟨A,B',hAB⟩ := List.append_of_mem hy
          refine ⟨k :: A,?_,?_⟩
          · have hnd := B.nd
            rw [hAB,List.map_append,List.nodup_append] at hnd
            have hA : ∀ q ∈ A,st Q q ≠ st Q y := fun q hq => hnd.2.2 _ (List.mem_map.2 ⟨q,hq,rfl⟩) _ (by simp)
            have hchA := (chain_append A (y :: B')).1 (by rw [← hAB]; exact hch)
            refine ⟨by simp,?_,?_,?_,?_⟩
            · intro q hq
              rcases List.mem_cons.1 hq with rfl | hq
              · exact hk
              · exact B.lt q (by rw [hAB]; simp [hq])
            · rw [List.map_cons,List.nodup_cons]
              refine ⟨fun hm => ?_,hnd.1⟩
              obtain ⟨q,hq,e⟩ := List.mem_map.1 hm
              exact hA q hq (e.trans e3.symm)
            · cases A with
              | nil => trivial
              | cons a A =>
                refine ⟨?_,hchA.1⟩
                rw [e1,hAB]; rfl
            · show en Q ((k :: A).getLastD 0) = st Q k
              cases A with
              | nil =>
                show en Q k = st Q k
                rw [e1,hAB,← e3]; rfl
              | cons a A =>
                have := hchA.2.2 (by simp) (by simp)
                rw [← e3]
                have e4 : (k :: a :: A).getLastD 0 = (a :: A).getLastD 0 := by simp [List.getLastD]
                rw [e4,this]; rfl
          · intro q hq
            rcases List.mem_cons.1 hq with rfl | hq
            · exact e2
            · exact hb q (by rw [hAB]; simp [hq])
        · have B2 : Beg n Q (k :: b) := ⟨by simp,fun q hq => by
            rcases List.mem_cons.1 hq with rfl | hq
            · exact hk
            · exact B.lt q hq,by rw [List.map_cons,List.nodup_cons]; exact ⟨hf,B.nd⟩⟩
          refine ih (k :: b) B2 ?_ ?_ (by simp; omega)
          · obtain ⟨a,t,rfl⟩ := List.exists_cons_of_ne_nil B.ne
            exact ⟨e1,hch⟩
          · intro q hq
            rcases List.mem_cons.1 hq with rfl | hq
            · exact e2
            · exact hb q hq
    exact key n [k0] ⟨by simp,by simpa using hk0,by simp⟩ trivial (by simpa using l0) (by simp; omega)
theorem rlF_all {n : Nat} {P : List (Nat × Nat)} (G : Good n P) (S : Nat) : rlF P S (2 ^ n - 1) (2 ^ n - 1) = decide (allR (subP P S) = []) := by
  have GS := subP_good G S
  have h := rlF_ring G S (2 ^ n - 1) (2 ^ n - 1) (by have := Nat.pow_pos (a := 2) (n := n) (by omega); omega) (Nat.le_refl _)
  have hb : ∀ k,k < (subP P S).length → (2 ^ n - 1).testBit (st (subP P S) k) = true := fun k hk => by
    rw [Nat.testBit_two_pow_sub_one]; simpa using (st_lt GS hk).1
  rw [Bool.eq_iff_iff,h,decide_eq_true_eq]
  constructor
  · intro hno
    rcases Classical.em (allR (subP P S) = []) with h | h
    · exact h
    · exfalso
      obtain ⟨o,t,e⟩ := List.exists_cons_of_ne_nil h
      have hc := ((allR_mem GS o).1 (by rw [e]; simp)).1
      exact hno ⟨o,hc,fun k hk => hb k (hc.lt k hk)⟩
  · rintro he ⟨c,C,_⟩
    obtain ⟨o,ho⟩ := cyc_min GS C
    rw [he] at ho; simp at ho
def cmpL : List Nat → List Nat → Int
  | [],[] => 0
  | [],_ :: _ => -1
  | _ :: _,[] => 1
  | a :: x,b :: y => if a < b then -1 else if b < a then 1 else cmpL x y
theorem cmpL_self : ∀ x,cmpL x x = 0
  | [] => rfl
  | a :: x => by rw [cmpL,if_neg (by omega),if_neg (by omega),cmpL_self x]
end Go.Am.Ring
set_option linter.unusedVariables false
set_option linter.unusedSimpArgs false
set_option maxRecDepth 10000
namespace Go.Am.Ring
open Go.Am.G
theorem app_del2 (m : LMem) (i na nb n L : Nat) (A X B : List LV) (hA : A.length = na * 2) (hX : X.length = 2) (hB : B.length = nb * 2) (hn : n = na + 1 + nb) (hL : L = n * 2) (hs : n < 1000) (hsB : B.all LV.scalar = true) (c' : Nat) (h : m[i]? = some ⟨A ++ X ++ B,true⟩) :
    ∃ C,appendL m 2 16 (.sl i 0 na n 2 2 L) (.sl i ((na + 1) * 2) nb c' 2 2 L) = some (.sl i 0 (na + nb) n 2 2 L,m.set i ⟨C,true⟩) ∧ C.length = L ∧ C.take ((na + nb) * 2) = A ++ B := by
  have hlen : (A ++ X ++ B).length = L := by simp; omega
  have c1 : contents m 2 (.sl i 0 na n 2 2 L) = some (A,na) := by
    simp only [contents,h]
    simp only [nbeq,nble,hlen,Nat.zero_add,show na * 2 ≤ L by omega,decide_true,Bool.and_self,cond_true,List.drop_zero]
    congr 2
    rw [List.append_assoc,List.take_append_of_le_length (by omega),List.take_of_length_le (by omega)]
  have c2 : contents m 2 (.sl i ((na + 1) * 2) nb c' 2 2 L) = some (B,nb) := by
    simp only [contents,h]
    simp only [nbeq,nble,hlen,show (na + 1) * 2 + nb * 2 ≤ L by omega,decide_true,Bool.and_self,cond_true]
    congr 2
    have : (A ++ X).length = (na + 1) * 2 := by simp; omega
    rw [← this,List.drop_left,List.take_of_length_le (by omega)]
  by_cases hb : nb = 0
  · have hB0 : B = [] := List.length_eq_zero_iff.1 (by omega)
    subst hB0 hb
    refine ⟨A ++ X ++ [],?_,hlen,?_⟩
    · have hm : m.set i ⟨A ++ X ++ [],true⟩ = m := by
        apply List.ext_getElem?
        intro j
        rw [List.getElem?_set]
        by_cases hj : i = j
        · subst hj
          have hi := (List.getElem?_eq_some_iff.1 h).1
          simp only [if_true,hi]
          exact h.symm
        · simp [hj]
      rw [hm]
      unfold appendL
      simp only [c1,c2]
      simp [nbeq,nble,show na ≤ n by omega]
    · rw [List.append_nil,List.append_nil,Nat.add_zero,List.take_append_of_le_length (by omega),List.take_of_length_le (by omega)]
  · have hroom : (Nat.ble ((na + nb) * 16) roomMost && Nat.ble (na + nb) roomMost && B.all LV.scalar) = true := by
      rw [hsB]
      simp only [roomMost,nble,Bool.and_true,Bool.and_eq_true,decide_eq_true_eq]
      omega
    refine ⟨spliceL (A ++ X ++ B) (0 + na * 2) B,?_,?_,?_⟩
    · unfold appendL
      simp only [c1,c2,hroom,h]
      simp only [nbeq,hb,decide_false,cond_false,cond_true,nble,show na + nb ≤ n by omega,decide_true]
      simp [show (na + nb) * 2 ≤ L by omega]
      try omega
    · unfold spliceL
      simp only [List.length_append,List.length_take,List.length_drop]
      omega
    · unfold spliceL
      have e1 : (A ++ X ++ B).take (0 + na * 2) = A := by
        rw [List.append_assoc,List.take_append_of_le_length (by omega),List.take_of_length_le (by omega)]
      rw [e1,List.take_append_of_le_length (by simp; omega),List.take_of_length_le (by simp; omega)]
theorem delete2_c (m : LMem) (i na nb n L : Nat) (A X B : List LV) (hA : A.length = na * 2) (hX : X.length = 2) (hB : B.length = nb * 2) (hn : n = na + 1 + nb) (hL : L = n * 2) (hs : n < 1000) (hsB : B.all LV.scalar = true) (h : m[i]? = some ⟨A ++ X ++ B,true⟩) :
    clF LP n_slices_Delete_2_int_2_int [.sl i 0 n n 2 2 L,.int .i64 (na : Int),.int .i64 ((na + 1 : Nat) : Int)] m = some (.W,.sl i 0 (na + nb) n 2 2 L,m.set i ⟨A ++ B ++ [.int .i64 0,.int .i64 0],true⟩) := by
  obtain ⟨C,h1,h2,h3⟩ := app_del2 m i na nb n L A X B hA hX hB hn hL hs hsB (n - (na + 1)) h
  have hi := (List.getElem?_eq_some_iff.1 h).1
  have hcl : clrsL (m.set i ⟨C,true⟩) [.int .i64 0,.int .i64 0] (.sl i ((na + nb) * 2) 1 1 2 2 L) = some (m.set i ⟨A ++ B ++ [.int .i64 0,.int .i64 0],true⟩) := by
    simp only [clrsL,List.getElem?_set,if_true,hi,List.set_set]
    have e : (na + nb) * 2 + 1 * 2 ≤ L := by omega
    have hz : zerosL (ofAVs [.int .i64 0,.int .i64 0]) (1 * 2) = [.int .i64 0,.int .i64 0] := rfl
    have hd : C.drop ((na + nb) * 2 + 2) = [] := List.drop_eq_nil_of_le (by omega)
    simp only [nbeq,nble,h2,List.length_cons,List.length_nil,Nat.zero_add,Nat.reduceAdd,e,decide_true,List.all_cons,List.all_nil,AV.scalar,Bool.and_self,cond_true,spliceL,h3,hz,hd,List.append_nil]
  have ht : trim m.length [.sl i 0 (na + nb) n 2 2 L] (m.set i ⟨A ++ B ++ [.int .i64 0,.int .i64 0],true⟩) = m.set i ⟨A ++ B ++ [.int .i64 0,.int .i64 0],true⟩ := trim_le _ _ _ (by simp)
  conv => rhs; rw [← ht]
  refine call_W lp_slices_Delete_2_int_2_int rfl ?_
  have e1 : ¬ (na : Int) = ((na + 1 : Nat) : Int) := by omega
  have hb1 : n - (na + 1) = nb := by omega
  rw [hb1] at h1
  simp only [slices_Delete_2_int_2_int,slices_Delete_2_int_2_int.B,exF_seq,exF_region,exF_cond,exF_ret,exF_skip,runL,wantL,stepL,evL,evC,LEnv.at,putL,loadFine,LEnv.keep,LEnv.ofFrom,List.map_cons,List.map_nil,nbeq,nble,lenL,bin_eql,natL_nat,Nat.zero_mul,Bool.or_true,Bool.and_true,Bool.true_and,Nat.reduceEqDiff,decide_true,decide_false,cond_true,cond_false,Nat.reduceAdd,reduceCtorEq,eq_self,retL,resultsL,resAllL,resOfL,Nat.le_refl,sliceL,optNatL,Option.map_some,Option.map_none,Option.isSome_some,Option.isSome_none,Bool.or_true,show na + 1 ≤ n by omega,show na ≤ na + 1 by omega,e1,show na ≤ n by omega,hb1,Nat.zero_le,Nat.sub_zero,Nat.zero_add,natL_nat,h1]
  simp only [LEnv.at,nbeq,decide_true,decide_false,cond_true,cond_false,reduceCtorEq,eq_self,show na + nb ≤ n by omega,show n - (na + nb) = 1 by omega,hcl]
end Go.Am.Ring
set_option linter.unusedVariables false
set_option linter.unusedSimpArgs false
namespace Go.Am.Ring
theorem wo_app (S : List Nat) : ∀ (a b : List (Nat × Nat)) (k : Nat),woF S k (a ++ b) = woF S k a ++ woF S (k + a.length) b
  | [],b,k => by simp [woF]
  | p :: a,b,k => by
    rw [List.cons_append,woF,woF,wo_app S a b (k + 1),List.length_cons,show k + 1 + a.length = k + (a.length + 1) by omega]
    split <;> rfl
theorem wo_high (S : List Nat) : ∀ (l : List (Nat × Nat)) (k : Nat),(∀ x ∈ S,x < k) → woF S k l = l
  | [],k,_ => rfl
  | p :: r,k,h => by
    rw [woF,if_neg (fun c => by have := h k c; omega),wo_high S r (k + 1) fun x hx => by have := h x hx; omega]
theorem wo_low (S : List Nat) (j : Nat) : ∀ (l : List (Nat × Nat)) (k : Nat),k + l.length ≤ j → woF (S ++ [j]) k l = woF S k l
  | [],k,_ => rfl
  | p :: r,k,h => by
    simp at h
    rw [woF,woF,wo_low S j r (k + 1) (by omega)]
    have : (k ∈ S ++ [j]) ↔ k ∈ S := by simp; omega
    simp only [this]
theorem count_one : ∀ (S : List Nat) (k : Nat),S.Nodup → k ∈ S → S.count k = 1
  | [],k,_,h => by simp at h
  | a :: S,k,hn,h => by
    have hn := List.nodup_cons.1 hn
    rw [List.count_cons]
    by_cases c : a = k
    · subst c
      rw [List.count_eq_zero.2 hn.1]; simp
    · rcases List.mem_cons.1 h with h | h
      · exact absurd h.symm c
      · rw [count_one S k hn.2 h]; simp [c]
theorem wo_count (S : List Nat) (hS : S.Nodup) : ∀ (l : List (Nat × Nat)) (k : Nat),(woF S k l).length + S.countP (fun x => decide (k ≤ x ∧ x < k + l.length)) = l.length
  | [],k => by
    have : S.countP (fun x => decide (k ≤ x ∧ x < k + ([] : List (Nat × Nat)).length)) = 0 := by
      rw [List.countP_eq_zero]
      intro x _
      simp
    rw [this]; rfl
  | p :: r,k => by
    have ih := wo_count S hS r (k + 1)
    have e : S.countP (fun x => decide (k ≤ x ∧ x < k + (p :: r).length)) = S.count k + S.countP (fun x => decide (k + 1 ≤ x ∧ x < k + 1 + r.length)) := by
      clear ih hS
      induction S with
      | nil => rfl
      | cons a S ih =>
        rw [List.countP_cons,List.countP_cons,List.count_cons,ih]
        by_cases c : a = k
        · subst c
          have e3 : decide (a ≤ a ∧ a < a + (p :: r).length) = true := by simp
          have e4 : decide (a + 1 ≤ a ∧ a < a + 1 + r.length) = false := by rw [decide_eq_false_iff_not]; omega
          rw [e3,e4]
          simp only [beq_self_eq_true,if_true,Bool.false_eq_true,if_false]
          omega
        · have e1 : (a == k) = false := by simpa using c
          have e2 : (k ≤ a ∧ a < k + (p :: r).length) ↔ (k + 1 ≤ a ∧ a < k + 1 + r.length) := by simp; omega
          simp only [e1,e2]
          simp
          omega
    rw [e,woF]
    by_cases c : k ∈ S
    · rw [if_pos c,count_one S k hS c,List.length_cons]; omega
    · rw [if_neg c,List.count_eq_zero.2 c,List.length_cons,List.length_cons]; omega
theorem wo_split (P : List (Nat × Nat)) (S : List Nat) (hS : S.Nodup) (j : Nat) (hj : j < P.length) (h : ∀ x ∈ S,x < j) : ∃ A B,woF S 0 P = A ++ P[j] :: B ∧ woF (S ++ [j]) 0 P = A ++ B ∧ A.length + S.length = j := by
  have e : P = P.take j ++ P[j] :: P.drop (j + 1) := by rw [List.getElem_cons_drop,List.take_append_drop]
  have hl : (P.take j).length = j := by simp; omega
  refine ⟨woF S 0 (P.take j),P.drop (j + 1),?_,?_,?_⟩
  · conv => lhs; rw [e]
    rw [wo_app,hl,Nat.zero_add,wo_high S _ j h]
  · conv => lhs; rw [e]
    rw [wo_app,hl,Nat.zero_add,wo_low S j (P.take j) 0 (by omega),woF,if_pos (by simp),wo_high (S ++ [j]) _ (j + 1) (by
      intro x hx
      rcases List.mem_append.1 hx with hx | hx
      · have := h x hx; omega
      · rw [List.mem_singleton.1 hx]; omega)]
  · have := wo_count S hS (P.take j) 0
    have e2 : S.countP (fun x => decide (0 ≤ x ∧ x < 0 + (P.take j).length)) = S.length := by
      rw [List.countP_eq_length]
      intro x hx
      have := h x hx
      rw [hl]
      simpa using this
    rw [e2,hl] at this
    exact this
end Go.Am.Ring
set_option linter.unusedVariables false
set_option linter.unusedSimpArgs false
set_option maxRecDepth 10000
namespace Go.Am.Ring
open Go.Am.G
def LV2 (m : LMem) (v : LV) (ib : Nat) (l : List (Nat × Nat)) : Prop :=
  ∃ cap L Z w,v = .sl ib 0 l.length cap 2 2 L ∧ m[ib]? = some ⟨Pcs l ++ Z,w⟩ ∧ (Pcs l ++ Z).length = L ∧ l.length ≤ cap
theorem LV2.view {m : LMem} {v : LV} {ib : Nat} {l : List (Nat × Nat)} (h : LV2 m v ib l) : ∃ ex,∀ k,view (k + 3) m v = some (FN false ex 2 l,[ib]) := by
  obtain ⟨cap,L,Z,w,rfl,hm,hL,hc⟩ := h
  have hp := Pcs_len l
  have hlen : (Pcs l ++ Z).length = l.length * 2 + Z.length := by rw [List.length_append,hp]
  have htk : (Pcs l ++ Z).take (l.length * 2) = Pcs l := by rw [List.take_append_of_le_length (by omega),List.take_of_length_le (by omega)]
  refine ⟨Nat.beq 2 0 && Nat.beq cap l.length,fun k => ?_⟩
  have := view_slc k m ib 0 l.length L 2 cap 2 (Pcs l ++ Z) w hm (by rw [List.drop_zero,htk]; exact Pcs_pures l) hL (by omega) hc
  rw [List.drop_zero,htk] at this
  simp only [FN_eq]
  exact this
theorem views_fill {m : LMem} {v : LV} {ib : Nat} {l : List (Nat × Nat)} (n : Nat) (ex : Bool) (h : ∀ k,Go.Am.view (k + 3) m v = some (FN false ex 2 l,[ib])) (hv : v.pure = false) : views m [.int .i64 (n : Int),v,.func n_ring_anyForm [] []] = some ([.int .i64 (n : Int),FN false ex 2 l,.func n_ring_anyForm [] []],[ib]) := by
  show viewL 100 m _ = _
  rw [viewL.eq_def]
  simp only [show LV.pures [.int .i64 (n : Int),v,.func n_ring_anyForm [] []] = false by simp [LV.pures,LV.pure,hv],cond_false]
  rw [viewC.eq_def]
  simp only [view_pure 96 m (.int .i64 (n : Int)) rfl]
  rw [viewC.eq_def]
  simp only [h 94]
  rw [viewC.eq_def]
  simp only [view_pure 94 m (.func n_ring_anyForm [] []) rfl]
  rw [viewC.eq_def]
  rfl
theorem clone2_m {args : List LV} {ids : List Nat} {m : LMem} (ex : Bool) (l : List (Int × Int)) (hl : l.length < 1000) (hne : l ≠ []) (hv : views m args = some ([FL false ex 2 l],ids)) : clF LP n_slices_Clone_2_int_2_int args m = some (.O,.sl m.length 0 l.length l.length 2 2 (l.length * 2),m ++ [⟨pcI l,true⟩]) := by
  have h0 : ¬ l.length = 0 := by simpa using hne
  have hr1 : l.length * 16 ≤ roomMost := by unfold roomMost; omega
  have hr2 : l.length ≤ roomMost := by unfold roomMost; omega
  have hsc : (pcI l).all LV.scalar = true := by
    clear hv hl hne h0 hr1 hr2
    induction l with
    | nil => rfl
    | cons a r ih => exact ih
  have hpl := pcI_len l
  have hshift : ∀ n,LV.shifts n (pcI l) = pcI l := by
    intro n
    rw [pcI]
    clear hv hl hne h0 hr1 hr2 hsc hpl
    induction l with
    | nil => rfl
    | cons a r ih => rw [List.flatMap_cons]; simp only [pc,List.cons_append,List.nil_append,LV.shifts,LV.shift,ih]
  have hsolid : LV.solids (pcI l) = true := by
    rw [pcI]
    clear hv hl hne h0 hr1 hr2 hsc hpl hshift
    induction l with
    | nil => rfl
    | cons a r ih => rw [List.flatMap_cons]; simp only [pc,List.cons_append,List.nil_append,LV.solids,LV.solid,ih,Bool.true_and]
  rw [clF_eq,lp_slices_Clone_2_int_2_int]
  simp only [callMode,slices_Clone_2_int_2_int,hv]
  simp only [slices_Clone_2_int_2_int.B,exF_seq,exF_region,exF_cond,exF_ret,exF_skip,runL,wantL,stepL,evL,evC,LEnv.at,putL,loadFine,LEnv.keep,LEnv.ofFrom,List.map_cons,List.map_nil,nbeq,nble,ofAVs,Nat.zero_mul,Bool.or_false,Bool.or_true,Bool.and_true,Nat.reduceEqDiff,decide_true,decide_false,cond_true,cond_false,reduceCtorEq,List.length_nil,eq_self,retL,resultsL,resAllL,resOfL,List.nil_append,freeze,Nat.reduceDiv,List.take_nil,List.all_cons,List.all_nil,fillL,nilOf,eqsL,Bool.xor_false,LV.shift,newOnly,LV.solid,appendL,contents,views,viewL,h0,hr1,hr2,hsc,newSl,Nat.zero_add,hshift,hsolid]
theorem filled_m {m : LMem} {v : LV} {ib : Nat} {l : List (Nat × Nat)} (n : Nat) (G : Good n l) (h : LV2 m v ib l) : ∃ m',clF LP n_ring_filled [.int .i64 (n : Int),v,.func n_ring_anyForm [] []] m = some (.P,.elt (tabA n l) 0,m') ∧ (∀ i,i ≠ ib → m'[i]? = m[i]?) ∧ m'.length = m.length ∧ LV2 m' v ib l := by
  obtain ⟨ex,hv⟩ := h.view
  obtain ⟨cap,L,Z,w,rfl,hm,hL,hc⟩ := h
  obtain ⟨m',h1,h2,h3,h4⟩ := call_shown2 lp_ring_filled rfl (views_fill n ex hv rfl) (by simp [LV.pures,LV.pure]) (filledA_c n l G false ex 2 [])
  obtain ⟨w',hm'⟩ := h4 ib _ _ hm
  exact ⟨m',h1,fun i hi => h2 i (by simpa using hi),h3,cap,L,Z,w',rfl,hm',hL,hc⟩
theorem LV2.mono {m m' : LMem} {v : LV} {ib : Nat} {l : List (Nat × Nat)} (h : LV2 m v ib l) (e : m'[ib]? = m[ib]?) : LV2 m' v ib l := by
  obtain ⟨cap,L,Z,w,h1,h2,h3,h4⟩ := h
  exact ⟨cap,L,Z,w,h1,by rw [e]; exact h2,h3,h4⟩
theorem LV2.lt {m : LMem} {v : LV} {ib : Nat} {l : List (Nat × Nat)} (h : LV2 m v ib l) : ib < m.length := by
  obtain ⟨cap,L,Z,w,h1,h2,h3,h4⟩ := h
  rcases Nat.lt_or_ge ib m.length with c | c
  · exact c
  · rw [List.getElem?_eq_none c] at h2; cases h2
theorem Pcs_app (a b : List (Nat × Nat)) : Pcs (a ++ b) = Pcs a ++ Pcs b := by simp [Pcs,pcI]
theorem strike_ploop (n : Nat) (P : List (Nat × Nat)) (G : Good n P) (d : Nat) : ∀ (i : Nat) (b : List Nat) (M : LMem) (vo v : LV) (ib : Nat),i + d = P.length → b.Nodup → (∀ x ∈ b,x < i) → Lst M vo 1 b.length ((ci b).map (LV.int .i64)) → LV2 M v ib (wS P b) → ¬ isBlk vo ib →
    ∃ vo' M',exF LP ring_Strike.L0 [(0,.int .i64 (n : Int)),(7,vo),(8,v),(22,.int .i64 (P.length : Int)),(23,.int .i64 (i : Int))] M = some (.exit 0,[(7,vo')],M') ∧ Lst M' vo' 1 (strG n P d i b).length ((ci (strG n P d i b)).map (LV.int .i64)) := by
  have h12 := G.le12
  induction d with
  | zero =>
    intro i b M vo v ib hi hnd hb hL hV hne
    refine ⟨vo,M,?_,hL⟩
    rw [ring_Strike.L0_eq]
    simp only [ring_Strike.B0,exF_seq,exF_region,exF_cond,exF_exit,runL,wantL,stepL,evL,LEnv.at,putL,loadFine,LEnv.keep,List.map_cons,List.map_nil,nbeq,bin_lss,Nat.reduceEqDiff,decide_true,decide_false,cond_true,cond_false,reduceCtorEq,eq_self,show ¬ ((i : Int) < (P.length : Int)) by omega]
  | succ d ih =>
    intro i b M vo v ib hi hnd hb hL hV hne
    have h2 : i < P.length := by omega
    have hii : (i : Int) < (P.length : Int) := by omega
    have hs := wrap_succ (show i + 1 < 9223372036854775808 by omega)
    obtain ⟨A,B,eA,eB,hAl⟩ := wo_split P b hnd i h2 hb
    have G1 := good_wo G b 0
    have G2 := good_wo G (b ++ [i]) 0
    obtain ⟨M1,f1,k1,l1,V1⟩ := filled_m n G1 hV
    obtain ⟨ex,hv⟩ := V1.view
    have hvp : LV.pures [v] = false := by
      obtain ⟨cap,L,Z,w,rfl,_⟩ := hV
      rfl
    have hv1 := views_one 92 M1 v _ _ hv hvp
    have hlen : (wS P b).length = A.length + 1 + B.length := by rw [wS,eA]; simp; omega
    have hle : (wS P b).length ≤ P.length := woF_len b P 0
    have hcl := clone2_m (args := [v]) (m := M1) ex ((wS P b).map castP) (by rw [List.length_map]; omega) (by
      intro c
      have := congrArg List.length c
      rw [List.length_map,hlen] at this
      simp at this) hv1
    rw [List.length_map] at hcl
    have hblk : (M1 ++ [⟨pcI ((wS P b).map castP),true⟩])[M1.length]? = some ⟨Pcs A ++ Pcs [P[i]] ++ Pcs B,true⟩ := by
      rw [last_at,wS,eA]
      have : pcI ((A ++ P[i] :: B).map castP) = Pcs A ++ Pcs [P[i]] ++ Pcs B := by
        have e := Pcs_app (A ++ [P[i]]) B
        rw [Pcs_app A [P[i]]] at e
        rw [show A ++ P[i] :: B = A ++ [P[i]] ++ B by simp]
        exact e
      rw [this]
    have hdel := delete2_c (M1 ++ [⟨pcI ((wS P b).map castP),true⟩]) M1.length A.length B.length (wS P b).length ((wS P b).length * 2) (Pcs A) (Pcs [P[i]]) (Pcs B) (Pcs_len A) (Pcs_len [P[i]]) (Pcs_len B) hlen rfl (by omega) (Pcs_scalar B) hblk
    rw [last_set] at hdel
    have hV3 : LV2 (M1 ++ [⟨Pcs A ++ Pcs B ++ [.int .i64 0,.int .i64 0],true⟩]) (.sl M1.length 0 (A.length + B.length) (wS P b).length 2 2 ((wS P b).length * 2)) M1.length (wS P (b ++ [i])) := by
      have hl2 : (wS P (b ++ [i])).length = A.length + B.length := by rw [wS,eB]; simp
      refine ⟨(wS P b).length,(wS P b).length * 2,[.int .i64 0,.int .i64 0],true,by rw [hl2],?_,?_,by omega⟩
      · rw [last_at,wS,eB,Pcs_app]
      · rw [List.length_append,Pcs_len,hl2]
        simp; omega
    obtain ⟨M4,f2,k4,l4,V4⟩ := filled_m n G2 hV3
    have hibl := hV.lt
    have hM3l : (M1 ++ [⟨Pcs A ++ Pcs B ++ [.int .i64 0,.int .i64 0],true⟩] : LMem).length = M.length + 1 := by simp [l1]
    have hL4 : Lst M4 vo 1 b.length ((ci b).map (LV.int .i64)) := hL.mono fun j hj => by
      have h1 := hL.lt j hj
      have h3 : j ≠ ib := fun e => hne (e ▸ hj)
      rw [k4 j (by omega),List.getElem?_append_left (by omega),k1 j h3]
    have hwat : IntKind.i64.wrap ((i : Int) - (b.length : Int)) = (A.length : Int) := by rw [wrap_in (by omega)]; omega
    have hwat1 : IntKind.i64.wrap ((A.length : Int) + 1) = ((A.length + 1 : Nat) : Int) := wrap_succ (by omega)
    have h38 := tab_38 n (wS P b) anyM n_ring_anyForm [] []
    have hat := tF_at anyM (wS P b) n 0 (Nat.two_pow_pos n)
    have h38b := tab_38 n (wS P (b ++ [i])) anyM n_ring_anyForm [] []
    have hatb := tF_at anyM (wS P (b ++ [i])) n 0 (Nat.two_pow_pos n)
    have hpos := Nat.two_pow_pos n
    have hlo := hL.lenL
    rw [ring_Strike.L0_eq,strG]
    by_cases c : FS n P (b ++ [i]) < FS n P b
    · rw [if_pos c]
      have c' : (((fwD anyM (wS P (b ++ [i])) n 0).1 : Nat) : Int) < (((fwD anyM (wS P b) n 0).1 : Nat) : Int) := by
        have : (fwD anyM (wS P (b ++ [i])) n 0).1 < (fwD anyM (wS P b) n 0).1 := c
        omega
      obtain ⟨vo5,M5,hap,hL5,k5,l5,b5⟩ := hL4.append (x := .lst false true 1 1 [.int .i64 (i : Int)]) (k := 1) (news := [.int .i64 (i : Int)]) (bytes := 8) (by simp [contents,nbeq]) rfl (by omega) (by omega) rfl
      have hL5 : Lst M5 vo5 1 (b ++ [i]).length ((ci (b ++ [i])).map (LV.int .i64)) := by simpa using hL5
      have hn1 : ¬ isBlk vo M1.length := fun h => by have := hL.lt _ h; omega
      have V5 := V4.mono (m' := M5) (k5 M1.length (by rw [l4,hM3l]; omega) hn1)
      obtain ⟨vo',M',hex,hL'⟩ := ih (i + 1) (b ++ [i]) M5 vo5 _ M1.length (by omega) (by
        rw [List.nodup_append]
        refine ⟨hnd,by simp,?_⟩
        intro x hx y hy
        simp at hy
        have := hb x hx
        omega) (by
        intro x hx
        rcases List.mem_append.1 hx with hx | hx
        · have := hb x hx; omega
        · rw [List.mem_singleton.1 hx]; omega) hL5 V5 (fun h => by
        rcases b5 _ h with h | h
        · exact hn1 h
        · rw [l4,hM3l] at h; omega)
      refine ⟨vo',M',?_,hL'⟩
      simp only [ring_Strike.B0,exF_seq,exF_region,exF_block,exF_cond,exF_skip,runL,wantL,stepL,evL,evC,LEnv.at,putL,loadFine,loadL,cellsAt,Trk.putNew,Trk.up,Trk.touch,Trk.gives,Trk.calm,opdsOf,Trk.fresh,LEnv.keep,List.map_cons,List.map_nil,nbeq,nble,nblt,ofAV,ofAVs,bin_add,bin_sub,bin_lss,natL_zero,List.any_cons,List.any_nil,Bool.or_false,Bool.true_or,Bool.and_true,Bool.true_and,Bool.not_true,Bool.not_false,Nat.reduceEqDiff,decide_true,decide_false,cond_true,cond_false,List.filter_nil,List.filter_cons,Nat.reduceAdd,Nat.reduceLeDiff,reduceCtorEq,List.length_nil,List.length_cons,Nat.mul_one,if_true,eq_self,List.append_nil,List.nil_append,views_pures,LV.pures,LV.pure,freeze,Nat.reduceDiv,LV.cells,spliceL,List.take_zero,List.take_succ_cons,List.drop_zero,List.drop_succ_cons,List.drop_nil,List.take_nil,Nat.le_refl,fillL,List.length_append,hii,f1,Nat.zero_add,h38,hpos,hat,hlo,hwat,hcl,hwat1,hdel,f2,h38b,hatb,c',hap,hs,hex]
    · rw [if_neg c]
      have c' : ¬ (((fwD anyM (wS P (b ++ [i])) n 0).1 : Nat) : Int) < (((fwD anyM (wS P b) n 0).1 : Nat) : Int) := by
        have : ¬ (fwD anyM (wS P (b ++ [i])) n 0).1 < (fwD anyM (wS P b) n 0).1 := c
        omega
      have V6 := V1.mono (m' := M4) (by rw [k4 ib (by omega),List.getElem?_append_left (by omega)])
      obtain ⟨vo',M',hex,hL'⟩ := ih (i + 1) b M4 vo v ib (by omega) hnd (fun x hx => by have := hb x hx; omega) hL4 V6 hne
      refine ⟨vo',M',?_,hL'⟩
      simp only [ring_Strike.B0,exF_seq,exF_region,exF_block,exF_cond,exF_skip,runL,wantL,stepL,evL,evC,LEnv.at,putL,loadFine,loadL,cellsAt,Trk.putNew,Trk.up,Trk.touch,Trk.gives,Trk.calm,opdsOf,Trk.fresh,LEnv.keep,List.map_cons,List.map_nil,nbeq,nble,nblt,ofAVs,bin_add,bin_sub,bin_lss,natL_zero,List.any_cons,List.any_nil,Bool.or_false,Bool.true_or,Bool.and_true,Bool.true_and,Bool.not_true,Bool.not_false,Nat.reduceEqDiff,decide_true,decide_false,cond_true,cond_false,List.filter_nil,List.filter_cons,Nat.reduceAdd,Nat.reduceLeDiff,reduceCtorEq,List.length_nil,List.length_cons,Nat.mul_one,if_true,eq_self,List.append_nil,List.nil_append,List.drop_zero,List.length_append,hii,f1,Nat.zero_add,h38,hpos,hat,hlo,hwat,hcl,hwat1,hdel,f2,h38b,hatb,c',hs,hex]
end Go.Am.Ring
