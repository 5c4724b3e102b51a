import Derived.Test.YtheppipmnfjdcaaDoorRdE1
import Derived.Test.YtheppipmnfjdcaaDoorRdC25
import Derived.Test.YtheppipmnfjdcaaDoorRdC15
set_option linter.unusedVariables false
set_option linter.unusedSimpArgs false
set_option maxRecDepth 10000
set_option maxHeartbeats 1000000
namespace Go.Am.Ring
open Go.Am.G
theorem allR_ne {n : Nat} {P : List (Nat × Nat)} (G : Good n P) : ∀ q ∈ allR P,q ≠ [] := fun q hq => ((allR_mem G q).1 hq).1.ne
theorem allR_lt {n : Nat} {P : List (Nat × Nat)} (G : Good n P) : ∀ q ∈ allR P,∀ x ∈ q,x < P.length := fun q hq => ((allR_mem G q).1 hq).1.lt
theorem mI_le {n : Nat} {P : List (Nat × Nat)} (G : Good n P) (S : Nat) : mI (allR P) P.length S ≤ P.length := by
  obtain ⟨Q,h1,h2,h3⟩ := mU_at (R := allR P) (2 ^ P.length - 1 - S)
  have := dis_le Q (List.range P.length) h1 fun r hr => by
    obtain ⟨x,hx⟩ := List.exists_mem_of_ne_nil r (allR_ne G r (h2 r hr).1)
    exact ⟨x,hx,List.mem_range.2 (allR_lt G r (h2 r hr).1 x hx)⟩
  rw [List.length_range] at this
  show mU _ _ ≤ _
  omega
theorem whole_eq {n : Nat} {P : List (Nat × Nat)} (G : Good n P) {S : Nat} (hS : S < 2 ^ P.length) (h0 : S ≠ 0) : wholeR (allR P) S = if 1 < (numL S).length ∧ oneF P (numL S) (numL S).length [] ((numL S).headD 0) = true then 1 else 0 := by
  have h12 := G.le12
  unfold wholeR
  rw [oneF_num G hS h0]
  by_cases c : ((allR P).any fun r => decide (setB r = S)) = true
  · rw [if_pos c]
    obtain ⟨r,hr,e⟩ := List.any_eq_true.1 c
    rw [decide_eq_true_eq] at e
    have C := ((allR_mem G r).1 hr).1
    have hl2 : 1 < (numL S).length := by
      have hsub : ∀ x ∈ r,x ∈ numL S := fun x hx => numL_mem.2 ⟨by have := C.lt x hx; omega,by rw [← e,setB_bit]; simpa using hx⟩
      have hnd : r.Nodup := (List.pairwise_map.1 C.nd).imp fun h e => h (congrArg _ e)
      have hle := nodup_le _ _ hnd hsub
      have : 2 ≤ r.length := by
        match r,C with
        | [],C => exact absurd rfl C.ne
        | [x],C =>
          have := C.cl
          have h3 := (st_lt G (C.lt x (by simp))).2.2
          exact absurd this.symm h3
        | x :: y :: t,C => simp
      omega
    rw [if_pos ⟨hl2,c⟩]
  · rw [if_neg c,if_neg (fun h => c h.2)]
theorem num_ne {S L : Nat} (hL : L ≤ 12) (hS : S < 2 ^ L) (h0 : S ≠ 0) : numL S ≠ [] := fun h => h0 (Nat.eq_of_testBit_eq fun i => by
  rw [Nat.zero_testBit]
  by_cases c : i < 12
  · have : i ∉ numL S := by rw [h]; simp
    rw [numL_mem] at this
    cases e : S.testBit i
    · rfl
    · exact absurd ⟨c,e⟩ this
  · exact Nat.testBit_lt_two_pow (Nat.lt_of_lt_of_le hS (Nat.pow_le_pow_right (by omega) (by omega))))
theorem num_lt {S L : Nat} (hL : L ≤ 12) (hS : S < 2 ^ L) : ∀ x ∈ numL S,x < L := fun x hx => by
  have := (numL_mem.1 hx).2
  by_cases c : x < L
  · exact c
  · rw [Nat.testBit_lt_two_pow (Nat.lt_of_lt_of_le hS (Nat.pow_le_pow_right (by omega) (by omega)))] at this
    cases this
theorem sets_loop {n : Nat} {P : List (Nat × Nat)} (G : Good n P) (h8 : P.length ≤ 8) (nl ex : Bool) (sz : Nat) (X5 : LV) (N : Nat) (hN : N = 2 ^ P.length) (b : Nat) (d : Nat) : ∀ (S : Nat) (M : LMem),S + d = N → M[b]? = some ⟨Tab (mI (allR P) P.length) N S 0,true⟩ →
    ∃ M',exF LP law04_RingPacked.L3 [(4,FN nl ex sz P),(5,X5),(17,.sl b 0 N N 0 1 N),(128,.int .u64 (N : Int)),(129,.int .u64 (S : Int))] M = some (.exit 4,[(5,X5),(17,.sl b 0 N N 0 1 N)],M') ∧ M'[b]? = some ⟨Tab (mI (allR P) P.length) N N 0,true⟩ := by
  have h256 : N ≤ 256 := by
    have : 2 ^ P.length ≤ 2 ^ 8 := Nat.pow_le_pow_right (by omega) h8
    omega
  have hf : ∀ q,mI (allR P) P.length q ≤ 1000 := fun q => by have := mI_le G q; omega
  have hz := mI_zero (allR_ne G) (allR_lt G)
  have hdp := fun {S F : Nat} => mI_dp (S := S) (F := F) (allR_ne G) (allR_lt G) (by omega)
  induction d with
  | zero =>
    intro S M hd hM
    obtain rfl : S = N := by omega
    refine ⟨M,?_,hM⟩
    rw [law04_RingPacked.L3_eq]
    simp only [law04_RingPacked.B3,exF_seq,exF_region,exF_cond,exF_exit,runL,wantL,stepL,evL,LEnv.at,putL,loadFine,LEnv.keep,List.map_cons,List.map_nil,nbeq,bin_lss,Nat.reduceEqDiff,decide_true,decide_false,cond_true,cond_false,eq_self,Int.lt_irrefl,decide_false]
  | succ d ih =>
    intro S M hd hM
    have hSN : S < N := by omega
    have hSN' : (S : Int) < (N : Int) := by omega
    have hS2 : S < 2 ^ P.length := by omega
    have hb : b < M.length := get_lt hM
    have hb2 : ¬ (List.length M ≤ b) := by omega
    have tl := tab_len (mI (allR P) P.length) N S 0
    have hsp := fun x : Nat => tab_splice (mI (allR P) P.length) (N := N) (S := S) (v := 0) (x := x) hSN
    have hS1 : S + 1 ≤ N := hSN
    have hw : IntKind.u64.wrap ((S : Int) + 1) = ((S + 1 : Nat) : Int) := by rw [IntWalk.u64_in _ (by omega)]; omega
    have hnx : (M.set b ⟨Tab (mI (allR P) P.length) N (S + 1) 0,true⟩)[b]? = some ⟨Tab (mI (allR P) P.length) N (S + 1) 0,true⟩ := List.getElem?_set_self hb
    obtain ⟨M',ih,ih2⟩ := ih (S + 1) _ (by omega) hnx
    refine ⟨M',?_,ih2⟩
    rw [← ih]
    obtain ⟨a1,b1,z1,hz1,hnum⟩ := numbers_c (S := S) (by omega)
    by_cases c0 : S = 0
    · subst c0
      have hs0 := hsp 0
      have htn := tab_next (mI (allR P) P.length) N 0
      rw [hz] at htn
      have hs0 : LV.int .i64 0 :: List.drop 1 (Tab (mI (allR P) P.length) N 0 0) = Tab (mI (allR P) P.length) N 0 0 := hs0
      have h1N : 1 ≤ N := hS1
      rw [← htn]
      rw [numL_zero] at hnum
      have el : lenL (IL a1 b1 z1 (ci [])) = some 0 := rfl
      rw [law04_RingPacked.L3_eq]
      simp only [Int.natCast_zero] at hnum hw hSN' ⊢
      generalize IL a1 b1 z1 (ci []) = U at *
      simp only [law04_RingPacked.B3,law04_RingPacked.B3.R0,beqT,exF_seq,exF_region,exF_block,exF_cond,exF_exit,exF_skip,runL,wantL,stepL,evL,evC,LEnv.at,putL,loadFine,LEnv.keep,List.map_cons,List.map_nil,nbeq,nble,nblt,ofAVs,bin_add,bin_eql,bin_lss,bin_gtr,natL_zero,Bool.and_true,Nat.reduceEqDiff,decide_true,decide_false,cond_true,cond_false,List.length_nil,List.length_cons,Nat.mul_one,eq_self,List.append_nil,List.nil_append,List.cons_append,Int.reduceLT,Int.natCast_zero,LV.cells,storeL,spliceL,List.take_zero,LV.scalar,List.all_cons,List.all_nil,hSN',hSN,hnum,el,hM,tl,Nat.zero_add,h1N,hs0,hw]
    · obtain ⟨⟨neg,hn1,hn2⟩,hfo1,hfo2⟩ := fo_c (x := S) (by omega) c0
      have hne := num_ne (by omega) hS2 c0
      have hz1 := hz1.resolve_left hne
      obtain ⟨rfl,rfl⟩ := hz1
      have hlt := num_lt (by omega) hS2
      have hle12 := num_le S
      have hone := fun m => oneRing_c G nl ex false b1 sz (numL S) hlt (by omega) hne m
      have hwh := whole_eq G hS2 c0
      have hdp := hdp (S := S) (F := Fo S) hS2 hfo2 hfo1
      have hpl := fun v M' h => parts_loop (mI (allR P) P.length) hf N S (Fo S) hSN h256 (by
        have : Fo S ≤ S := by rw [← hfo1]; exact Nat.and_le_right
        omega) (FN nl ex sz P) X5 (.int .u64 (N : Int)) (.int .u64 (S : Int)) b S S v M' (Nat.le_refl _) (Nat.and_self S) h
      have hlen : lenL (IL false b1 1 (ci (numL S))) = some (numL S).length := by
        show some (ci (numL S)).length = _
        rw [ci_len]
      have hpos : 0 < (numL S).length := List.length_pos_iff.2 hne
      have hnz : ¬ (((numL S).length : Nat) : Int) = 0 := by omega
      generalize oneF P (numL S) (numL S).length [] ((numL S).headD 0) = w at *
      rw [hwh] at hdp
      have fin : ∀ x,(if 1 < (numL S).length ∧ w = true then 1 else 0) = x → exF LP law04_RingPacked.L2 [(4,FN nl ex sz P),(5,X5),(17,.sl b 0 N N 0 1 N),(18,.int .u64 (S : Int)),(21,.int .u64 ((Fo S : Nat) : Int)),(22,.int .u64 (S : Int)),(128,.int .u64 (N : Int)),(129,.int .u64 (S : Int))] (M.set b ⟨Tab (mI (allR P) P.length) N S x,true⟩) =
          some (.exit 6,[(4,FN nl ex sz P),(5,X5),(17,.sl b 0 N N 0 1 N),(128,.int .u64 (N : Int)),(129,.int .u64 (S : Int))],M.set b ⟨Tab (mI (allR P) P.length) N (S + 1) 0,true⟩) := fun x hx => by
        rw [hpl x _ (List.getElem?_set_self hb),List.set_set,← tab_next,← hdp,hx]
      have hs0 := hsp 0
      have hs1 := hsp 1
      have i0 : ((0 : Nat) : Int) = 0 := rfl
      have i1 : ((1 : Nat) : Int) = 1 := rfl
      rw [i0] at hs0
      rw [i1] at hs1
      simp only [unL,Option.some.injEq] at hn1
      subst hn1
      clear hpl hdp hwh ih ih2 hnx hsp
      generalize IL false b1 1 (ci (numL S)) = U at *
      generalize (numL S).length = ln at *
      generalize (Fo S : Nat) = fo at *
      generalize FN nl ex sz P = FP at *
      rw [law04_RingPacked.L3_eq]
      by_cases c1 : 1 < ln
      · have c1' : (1 : Int) < (ln : Int) := by omega
        cases w with
        | true =>
          have fin := fin 1 (if_pos ⟨c1,rfl⟩)
          simp only [law04_RingPacked.B3,law04_RingPacked.B3.R0,beqT,exF_seq,exF_region,exF_block,exF_cond,exF_skip,runL,wantL,stepL,evL,evC,LEnv.at,putL,loadFine,LEnv.keep,List.map_cons,List.map_nil,nbeq,nble,nblt,ofAVs,bin_add,bin_eql,bin_lss,bin_gtr,natL_nat,Bool.and_true,Nat.reduceEqDiff,decide_true,decide_false,cond_true,cond_false,List.length_nil,List.length_cons,Nat.mul_one,eq_self,List.append_nil,List.nil_append,unL,LV.cells,storeL,spliceL,LV.scalar,List.all_cons,List.all_nil,hSN',hSN,hnum,hlen,c1',hone,hM,tl,Nat.zero_add,hS1,hs1,hnz,hn2,fin,hw]
        | false =>
          have fin := fin 0 (if_neg (by simp))
          simp only [law04_RingPacked.B3,law04_RingPacked.B3.R0,beqT,exF_seq,exF_region,exF_block,exF_cond,exF_skip,runL,wantL,stepL,evL,evC,LEnv.at,putL,loadFine,LEnv.keep,List.map_cons,List.map_nil,nbeq,nble,nblt,ofAVs,bin_add,bin_eql,bin_lss,bin_gtr,natL_nat,Bool.and_true,Nat.reduceEqDiff,decide_true,decide_false,cond_true,cond_false,List.length_nil,List.length_cons,Nat.mul_one,eq_self,List.append_nil,List.nil_append,unL,LV.cells,storeL,spliceL,LV.scalar,List.all_cons,List.all_nil,hSN',hSN,hnum,hlen,c1',hone,hM,tl,Nat.zero_add,hS1,hs0,hnz,hn2,fin,hw]
      · have c1' : ¬ (1 : Int) < (ln : Int) := by omega
        have fin := fin 0 (if_neg (fun h => c1 h.1))
        simp only [law04_RingPacked.B3,law04_RingPacked.B3.R0,beqT,exF_seq,exF_region,exF_block,exF_cond,exF_skip,runL,wantL,stepL,evL,evC,LEnv.at,putL,loadFine,LEnv.keep,List.map_cons,List.map_nil,nbeq,nble,nblt,ofAVs,bin_add,bin_eql,bin_lss,bin_gtr,natL_nat,Bool.and_true,Nat.reduceEqDiff,decide_true,decide_false,cond_true,cond_false,List.length_nil,List.length_cons,Nat.mul_one,eq_self,List.append_nil,List.nil_append,unL,LV.cells,storeL,spliceL,LV.scalar,List.all_cons,List.all_nil,hSN',hSN,hnum,hlen,c1',hM,tl,Nat.zero_add,hS1,hs0,hnz,hn2,fin,hw]
end Go.Am.Ring
set_option linter.unusedVariables false
set_option linter.unusedSimpArgs false
set_option maxRecDepth 10000
set_option maxHeartbeats 1000000
namespace Go.Am.Ring
open Go.Am.G
def orL (u : Nat) (r : List Nat) : Nat := r.foldl (fun a x => a ||| 2 ^ x) u
theorem orL_app (a r : List Nat) : setB (a ++ r) = orL (setB a) r := by unfold setB orL; rw [List.foldl_append]
theorem finds_loop (P : List (Nat × Nat)) (h12 : P.length ≤ 12) (nl ex : Bool) (sz : Nat) (X5 X62 X63 X64 : LV) (sa sb : Bool) (sz2 : Nat) (str : List Nat) (hstr : str.length < 1000) (M : LMem) (r : List Nat) (hr : ∀ x ∈ r,x < P.length) (hnd : r.Nodup) (hrl : r.length < 1000) (j : Nat) : ∀ (k : Nat) (u : Nat) (hit : Bool),k + j = r.length → u < 4096 → (∀ x ∈ r.drop k,u.testBit x = false) →
    exF LP law04_RingPacked.L0 [(4,FN nl ex sz P),(5,X5),(7,IL sa sb sz2 (ci str)),(11,.int .u64 (u : Int)),(13,rlv (ci r)),(14,.bool hit),(62,X62),(63,X63),(64,X64),(81,rlv (ci r)),(82,.int .i64 (r.length : Int)),(83,.int .i64 (k : Int))] M =
      some (.exit 2,[(4,FN nl ex sz P),(5,X5),(7,IL sa sb sz2 (ci str)),(11,.int .u64 ((orL u (r.drop k) : Nat) : Int)),(13,rlv (ci r)),(14,.bool (hit || (r.drop k).any fun x => decide (x ∈ str))),(62,X62),(63,X63),(64,X64)],M) := by
  have hcl := ci_len r
  induction j with
  | zero =>
    intro k u hit hk hu hb
    rw [List.drop_eq_nil_of_le (by omega),orL,List.foldl_nil,List.any_nil,Bool.or_false,law04_RingPacked.L0_eq]
    simp only [rlv,IL,hcl]
    generalize (ci r).map (LV.int .i64) = row at *
    simp only [law04_RingPacked.B0,exF_seq,exF_region,exF_cond,exF_exit,runL,wantL,stepL,evL,LEnv.at,putL,loadFine,LEnv.keep,List.map_cons,List.map_nil,nbeq,bin_lss,Nat.reduceEqDiff,decide_true,decide_false,cond_true,cond_false,eq_self,show ¬ ((k : Int) < (r.length : Int)) by omega]
  | succ j ih =>
    intro k u hit hk hu hb
    have h2 : k < r.length := by omega
    have hkk : (k : Int) < (r.length : Int) := by omega
    have hw := wrap_succ (show k + 1 < 9223372036854775808 by omega)
    have hrk := hr _ (List.getElem_mem h2)
    have hat : (ci r).map (LV.int .i64) = r.map fun y : Nat => LV.int .i64 (y : Int) := by simp
    have b0 := nat_at .i64 r k h2
    rw [← hat] at b0
    rw [List.drop_eq_getElem_cons h2] at hb ⊢
    have hbx := hb r[k] List.mem_cons_self
    have hs1 := bits_shr (a := u) (show r[k] < 64 by omega)
    have ha1 := bits_and1 (a := u / 2 ^ r[k]) (Nat.lt_of_le_of_lt (Nat.div_le_self _ _) (by omega))
    have hb1 := bit_dec u r[k]
    rw [hbx] at hb1
    have hb1 := of_decide_eq_false hb1
    have hshl := bits_shl (show r[k] < 64 by omega)
    have hpw : 2 ^ r[k] < 2 ^ 12 := Nat.pow_lt_pow_right (by omega) (by omega)
    have hor := bits_or (a := u) (b := 2 ^ r[k]) (by omega) (by omega)
    have hou : u ||| 2 ^ r[k] < 4096 := Nat.or_lt_two_pow (n := 12) hu hpw
    have hcon := fun m => contains_c sa sb sz2 (ci str) ((r[k] : Nat) : Int) (by rw [ci_len]; omega) m
    have hmem := ci_mem str r[k]
    have hdi : decide (((r[k] : Nat) : Int) ∈ ci str) = decide (r[k] ∈ str) := by rw [decide_eq_decide]; exact hmem
    rw [hdi] at hcon
    have hnk : r[k] ∉ r.drop (k + 1) := by
      have : (r.drop k).Nodup := List.Pairwise.sublist (List.drop_sublist k r) hnd
      rw [List.drop_eq_getElem_cons h2,List.nodup_cons] at this
      exact this.1
    have ih := ih (k + 1) (u ||| 2 ^ r[k]) (hit || decide (r[k] ∈ str)) (by omega) hou (fun x hx => by
      rw [Nat.testBit_or,hb x (List.mem_cons_of_mem _ hx),Nat.testBit_two_pow]
      simp only [Bool.false_or,decide_eq_false_iff_not]
      intro e; exact hnk (e ▸ hx))
    have e1 : orL u (r[k] :: r.drop (k + 1)) = orL (u ||| 2 ^ r[k]) (r.drop (k + 1)) := rfl
    have e2 : (hit || (r[k] :: r.drop (k + 1)).any fun x => decide (x ∈ str)) = ((hit || decide (r[k] ∈ str)) || (r.drop (k + 1)).any fun x => decide (x ∈ str)) := by rw [List.any_cons,Bool.or_assoc]
    rw [e1,e2,← ih,law04_RingPacked.L0_eq]
    have g0 : ¬ ((r[k] : Nat) : Int) < 0 := by omega
    have g1 : ¬ (P.length : Int) ≤ ((r[k] : Nat) : Int) := by omega
    have lP : lenL (FN nl ex sz P) = some P.length := by rw [FN_eq]; rfl
    have lr : lenL (rlv (ci r)) = some r.length := by show some (ci r).length = _; rw [hcl]
    clear ih e1 e2
    generalize (u ||| 2 ^ r[k] : Nat) = uo at *
    generalize (2 ^ r[k] : Nat) = pw at *
    generalize (u / pw : Nat) = sh at *
    generalize (sh % 2 : Nat) = sm at *
    generalize decide (r[k] ∈ str) = ds at *
    generalize FN nl ex sz P = FP at *
    generalize IL sa sb sz2 (ci str) = SV at *
    simp only [rlv,IL,hcl]
    generalize (ci r).map (LV.int .i64) = row at *
    cases hit <;> simp only [law04_RingPacked.B0,law04_RingPacked.B0.R0,beqF,exF_seq,exF_region,exF_block,exF_cond,exF_skip,runL,wantL,stepL,evL,evC,LEnv.at,putL,loadFine,loadL,cellsAt,Trk.putNew,Trk.up,Trk.touch,Trk.gives,Trk.calm,opdsOf,Trk.fresh,LEnv.keep,List.map_cons,List.map_nil,nbeq,nble,nblt,ofAVs,bin_add,bin_eql,bin_lss,bin_geq,natL_nat,List.any_cons,List.any_nil,Bool.or_false,Bool.false_or,Bool.true_or,Bool.or_true,Bool.and_true,Bool.false_and,Bool.not_true,Bool.not_false,Nat.reduceEqDiff,decide_true,decide_false,cond_true,cond_false,List.filter_nil,Nat.reduceAdd,Nat.reduceLeDiff,Nat.mul_one,eq_self,List.append_nil,List.nil_append,hkk,h2,b0,g0,lP,g1,hs1,ha1,hb1,hshl,hor,hcon,hw,Bool.true_or,Bool.false_or]
theorem packed_loop {n : Nat} {P : List (Nat × Nat)} (G : Good n P) (nl ex : Bool) (sz : Nat) (a b : Bool) (z : Nat) (sa sb : Bool) (sz2 : Nat) (M : LMem) (K : List (List Nat)) (hK : ∀ r ∈ K,r ∈ allR P) (hasc : K.Pairwise LexB) (hdis : K.Pairwise Dis) (hKl : K.length < 1000) (hstr : (strL n P).length < 1000) (j : Nat) : ∀ k,k + j = K.length →
    exF LP law04_RingPacked.L1 [(4,FN nl ex sz P),(5,.lst a b z K.length (rows K)),(7,IL sa sb sz2 (ci (strL n P))),(11,.int .u64 ((setB (K.take k).flatten : Nat) : Int)),(62,.lst a b z K.length (rows K)),(63,.int .i64 (K.length : Int)),(64,.int .i64 (k : Int))] M =
      some (.exit 0,[(4,FN nl ex sz P),(5,.lst a b z K.length (rows K))],M) := by
  have h12 := G.le12
  induction j with
  | zero =>
    intro k hk
    rw [law04_RingPacked.L1_eq]
    generalize rows K = RK at *
    simp only [law04_RingPacked.B1,exF_seq,exF_region,exF_cond,exF_exit,runL,wantL,stepL,evL,LEnv.at,putL,loadFine,LEnv.keep,List.map_cons,List.map_nil,nbeq,bin_lss,Nat.reduceEqDiff,decide_true,decide_false,cond_true,cond_false,eq_self,show ¬ ((k : Int) < (K.length : Int)) by omega]
  | succ j ih =>
    intro k hk
    have h2 : k < K.length := by omega
    have hkk : (k : Int) < (K.length : Int) := by omega
    have hw := wrap_succ (show k + 1 < 9223372036854775808 by omega)
    have b0 := rows_at K k h2
    have hrA := hK _ (List.getElem_mem h2)
    have C := ((allR_mem G _).1 hrA).1
    have hnd : K[k].Nodup := (List.pairwise_map.1 C.nd).imp fun h e => h (congrArg _ e)
    have len12 : ∀ r ∈ K,r.length ≤ 12 := fun r hr => by
      have C := ((allR_mem G _).1 (hK r hr)).1
      have := nodup_le r (List.range P.length) ((List.pairwise_map.1 C.nd).imp fun h e => h (congrArg _ e)) fun x hx => List.mem_range.2 (C.lt x hx)
      rw [List.length_range] at this; omega
    have hrl := len12 _ (List.getElem_mem h2)
    have hul : setB (K.take k).flatten < 4096 := setB_lt (n := 12) fun x hx => by
      obtain ⟨r,hr,hxr⟩ := List.mem_flatten.1 hx
      have := ((allR_mem G _).1 (hK r (List.mem_of_mem_take hr))).1.lt x hxr
      omega
    have hfree : ∀ x ∈ K[k].drop 0,(setB (K.take k).flatten).testBit x = false := fun x hx => by
      rw [setB_bit,decide_eq_false_iff_not]
      intro hm
      obtain ⟨r,hr,hxr⟩ := List.mem_flatten.1 hm
      obtain ⟨i,hi,e⟩ := List.mem_take_iff_getElem.1 hr
      have := (List.pairwise_iff_getElem.1 hdis) i k (by omega) h2 (by omega)
      rw [e] at this
      exact this x hxr (by simpa using hx)
    have hl := fun X5 X62 X63 X64 => finds_loop P h12 nl ex sz X5 X62 X63 X64 sa sb sz2 (strL n P) hstr M K[k] C.lt hnd (by omega) K[k].length 0 (setB (K.take k).flatten) false (by omega) hul hfree
    simp only [List.drop_zero,Bool.false_or,Int.natCast_zero] at hl
    obtain ⟨x,hx1,hx2⟩ := str_hits G hrA
    have hany : (K[k].any fun x => decide (x ∈ strL n P)) = true := List.any_eq_true.2 ⟨x,hx1,by simpa using hx2⟩
    have hor : orL (setB (K.take k).flatten) K[k] = setB (K.take (k + 1)).flatten := by
      rw [← orL_app,take_snoc K k h2,List.flatten_append]; simp
    rw [hany,hor] at hl
    have hcl : ∀ m,clF LP n_law04_closes [FN nl ex sz P,rlv (ci K[k])] m = some (.P,.bool true,m) := fun m => by
      have h := closes_c G nl ex false false sz K[k] C.lt (by omega) m
      rw [decide_eq_true hrA] at h
      exact h
    have ih := ih (k + 1) (by omega)
    rw [← ih,law04_RingPacked.L1_eq]
    have lr : lenL (rlv (ci K[k])) = some K[k].length := by show some (ci K[k]).length = _; rw [ci_len]
    clear ih hfree hor hany
    by_cases c : k = 0
    · subst c
      generalize (setB (K.take 0).flatten : Nat) = u0 at *
      generalize (setB (K.take (0 + 1)).flatten : Nat) = u1 at *
      generalize FN nl ex sz P = FP at *
      generalize IL sa sb sz2 (ci (strL n P)) = SV at *
      generalize rows K = RK at *
      generalize rlv (ci K[0]) = RV at *
      simp only [Int.natCast_zero] at hw hkk ⊢
      simp only [law04_RingPacked.B1,law04_RingPacked.B1.R0,law04_RingPacked.B1.R1,beqT,beqF,exF_seq,exF_region,exF_block,exF_cond,exF_skip,runL,wantL,stepL,evL,evC,LEnv.at,putL,loadFine,loadL,cellsAt,Trk.putNew,Trk.up,Trk.touch,Trk.gives,Trk.calm,opdsOf,Trk.fresh,LEnv.keep,List.map_cons,List.map_nil,nbeq,nble,nblt,ofAVs,bin_add,bin_lss,bin_gtr,natL_zero,List.any_cons,List.any_nil,Bool.or_false,Bool.or_true,Bool.and_true,Bool.false_and,Bool.not_true,Bool.not_false,Nat.reduceEqDiff,decide_true,decide_false,cond_true,cond_false,List.filter_nil,Nat.reduceAdd,Nat.reduceLeDiff,Nat.mul_one,eq_self,List.append_nil,List.nil_append,unL,List.drop_zero,hkk,h2,b0,Int.lt_irrefl,lr,hl,hcl,hw]
    · have k0 : (0 : Int) < (k : Int) := by omega
      have hw1 : IntKind.i64.wrap ((k : Int) - 1) = ((k - 1 : Nat) : Int) := by rw [wrap_in (by omega)]; omega
      have b1 := rows_at K (k - 1) (by omega)
      have h3 : k - 1 < K.length := by omega
      have hcmp : ∀ m,clF LP n_slices_Compare_int_int [rlv (ci K[k - 1]),rlv (ci K[k])] m = some (.P,.int .i64 (-1),m) := fun m => by
        have h := compare_c false false false false 1 1 K[k - 1] K[k] (by have := len12 _ (List.getElem_mem h3); omega) (by omega) m
        rw [(cmpL_lex ((List.pairwise_iff_getElem.1 hasc) (k - 1) k h3 h2 (by omega))).2] at h
        exact h
      have gm : ¬ (0 : Int) ≤ -1 := by omega
      generalize (setB (K.take k).flatten : Nat) = u0 at *
      generalize (setB (K.take (k + 1)).flatten : Nat) = u1 at *
      generalize FN nl ex sz P = FP at *
      generalize IL sa sb sz2 (ci (strL n P)) = SV at *
      generalize rows K = RK at *
      generalize rlv (ci K[k]) = RV at *
      generalize rlv (ci K[k - 1]) = RV1 at *
      simp only [law04_RingPacked.B1,law04_RingPacked.B1.R0,law04_RingPacked.B1.R1,beqT,beqF,exF_seq,exF_region,exF_block,exF_cond,exF_skip,runL,wantL,stepL,evL,evC,LEnv.at,putL,loadFine,loadL,cellsAt,Trk.putNew,Trk.up,Trk.touch,Trk.gives,Trk.calm,opdsOf,Trk.fresh,LEnv.keep,List.map_cons,List.map_nil,nbeq,nble,nblt,ofAVs,bin_add,bin_sub,bin_lss,bin_gtr,bin_geq,natL_nat,List.any_cons,List.any_nil,Bool.or_false,Bool.or_true,Bool.and_true,Bool.false_and,Bool.not_true,Bool.not_false,Nat.reduceEqDiff,decide_true,decide_false,cond_true,cond_false,List.filter_nil,Nat.reduceAdd,Nat.reduceLeDiff,Nat.mul_one,eq_self,List.append_nil,List.nil_append,unL,hkk,h2,b0,k0,hw1,h3,b1,hcmp,gm,lr,hl,hcl,hw]
theorem tab_end (f : Nat → Nat) {N q : Nat} (h : q < N) : (Tab f N N 0)[q]? = some (.int .i64 ((f q : Nat) : Int)) := by
  rw [Tab,List.getElem?_map,List.getElem?_range h,Option.map_some,if_pos h]
theorem mI_all (R : List (List Nat)) (L : Nat) : mI R L (2 ^ L - 1) = (ap R).length := by
  unfold mI mU
  rw [Nat.sub_self,wo_zero]
end Go.Am.Ring
set_option linter.unusedVariables false
set_option linter.unusedSimpArgs false
set_option maxRecDepth 10000
namespace Go.Am.Ring
open Go.Am.G
def apI (R : List (List Nat)) (O : List Nat) (m : LMem) : Prop :=
  (R = [] ∧ m[0]? = some ⟨[.lst true true 0 0 []],true⟩ ∧ O = [0]) ∨ (R ≠ [] ∧ ∃ b,b ≠ 0 ∧ m[0]? = some ⟨[.sl b 0 R.length R.length 1 1 R.length],true⟩ ∧ m[b]? = some ⟨rows R,true⟩ ∧ O = [0,b])
theorem rows_noRefs (i : Nat) : ∀ R : List (List Nat),LV.noRefs i (rows R) = true
  | [] => rfl
  | a :: R => by simp only [rows,List.map_cons,LV.noRefs,LV.noRef,Bool.true_and]; exact rows_noRefs i R
theorem app_one (m : LMem) (b n bytes : Nat) (cs : List LV) (x y : LV) (h : m[b]? = some ⟨cs,true⟩) (hl : cs.length = n) (hn : 0 < n) (hr1 : (n + 1) * bytes ≤ 140737488355328) (hr2 : n + 1 ≤ 140737488355328) (hx : contents m 1 x = some ([y],1)) (hy : y.scalar = true) :
    appendL m 1 bytes (.sl b 0 n n 1 1 n) x = some (.sl b 0 (n + 1) (n + 1) 1 1 (n + 1),m.set b ⟨cs ++ [y],true⟩) := by
  have hcs : contents m 1 (.sl b 0 n n 1 1 n) = some (cs,n) := by
    simp only [contents,h]
    simp only [nbeq,nble,hl,Nat.zero_add,Nat.mul_one,Nat.le_refl,decide_true,Bool.and_self,cond_true,List.drop_zero]
    rw [List.take_of_length_le (by omega)]
  have h4 : (Nat.ble ((n + 1) * bytes) roomMost && Nat.ble (n + 1) roomMost && [y].all LV.scalar) = true := by
    simp only [roomMost,nble,List.all_cons,List.all_nil,hy,Bool.and_true,Bool.and_eq_true,decide_eq_true_eq]
    exact ⟨hr1,hr2⟩
  have h5 : Nat.ble (n + 1) n = false := by rw [nble]; simp
  have h6 : Nat.blt n (n + 1) = true := by rw [nblt]; simp
  unfold appendL
  simp only [hcs,hx,h4,h,h5,Nat.mul_one,h6]
  simp [nbeq]
def apVis : RVis (List (List Nat)) 1 where
  I := apI
  vis := fun R r => R ++ [r]
  f := n_ring_Apart_1
  first := []
  cap := [.ptr 0 0 1]
  size := fun R => R.length
  hsz := fun _ _ => by simp
  hI := by
    rintro R O m m' (⟨h0,h1,rfl⟩ | ⟨h0,b,hb,h1,h2,rfl⟩) e
    · exact .inl ⟨h0,by rw [e 0 (by simp)]; exact h1,rfl⟩
    · exact .inr ⟨h0,b,hb,by rw [e 0 (by simp)]; exact h1,by rw [e b (by simp)]; exact h2,rfl⟩
  hlt := by
    rintro R O m (⟨h0,h1,rfl⟩ | ⟨h0,b,hb,h1,h2,rfl⟩) i hi
    · rw [List.mem_singleton.1 hi]; exact get_lt h1
    · simp at hi
      rcases hi with rfl | rfl
      · exact get_lt h1
      · exact get_lt h2
  hT := by
    rintro R O m k (⟨h0,h1,rfl⟩ | ⟨h0,b,hb0,h1,h2,rfl⟩) hk hb i hi
    · rw [List.mem_singleton.1 hi]; omega
    · simp at hi
      rcases hi with rfl | rfl
      · omega
      · unfold belowM at hb
        rw [List.all_eq_true] at hb
        have := hb ⟨[.sl i 0 R.length R.length 1 1 R.length],true⟩ (by
          have g : (m.take k)[0]? = m[0]? := by rw [List.getElem?_take,if_pos (by omega)]
          rw [h1] at g
          exact List.mem_of_getElem? g)
        simpa only [LV.unders,LV.under,Bool.and_true,nblt,decide_eq_true_eq] using this
  hvis := by
    intro R O m r h hr h6 hsz hN hC
    have hl0 : (0 : Nat) < m.length := by omega
    have hcl := ci_len r
    have hcr : ci r ≠ [] := fun h => hr (ci_nil.1 h)
    let fb : LBlk := ⟨ints (ci r),false⟩
    have hL : (m ++ [(⟨ints (ci r),true⟩ : LBlk)]).length = m.length + 1 := by simp
    have up : ∀ {i : Nat} {b : LBlk},m[i]? = some b → (m ++ [fb])[i]? = some b := fun h => by rw [List.getElem?_append_left (get_lt h)]; exact h
    have up1 : ∀ {i : Nat} {b : LBlk},m[i]? = some b → (m ++ [(⟨ints (ci r),true⟩ : LBlk)])[i]? = some b := fun h => by rw [List.getElem?_append_left (get_lt h)]; exact h
    have hv : views (m ++ [(⟨ints (ci r),true⟩ : LBlk)]) [.sl m.length 0 r.length r.length 1 1 r.length] = some ([.lst false false 1 r.length (ints (ci r))],[m.length]) := by
      have := views_one 92 (m ++ [(⟨ints (ci r),true⟩ : LBlk)]) (.sl m.length 0 r.length r.length 1 1 r.length) (IL false false 1 (ci r)) [m.length] (fun k => by
        have := view_sl k (m ++ [(⟨ints (ci r),true⟩ : LBlk)]) m.length 0 r.length r.length 1 (ci r) true (get_last _ _) (by simp) (by omega) r.length (Nat.le_refl _)
        rw [List.drop_zero,List.take_of_length_le (by simp)] at this
        exact this) rfl
      simp only [IL,hcl] at this
      exact this
    have hfz : freeze [m.length] (m ++ [(⟨ints (ci r),true⟩ : LBlk)]) = m ++ [fb] := by
      simp only [freeze,freeze1,get_last,set_last,fb]
    have hrow : (LV.lst false false 1 r.length (ints (ci r))) = rlv (ci r) := by simp only [rlv,IL,hcl]
    have hcall : ∀ (M : LMem),retL ring_Apart_1.results (exF LP ring_Apart_1.body (LEnv.ofFrom 0 [.sl m.length 0 r.length r.length 1 1 r.length,.ptr 0 0 1]) (m ++ [(⟨ints (ci r),true⟩ : LBlk)])) = some (.bool true,M) → (M.length = m.length + 1 ∨ ∃ v : LBlk,v ∈ M.take (m.length + 1) ∧ LV.unders (m.length + 1) v.cells = false) → clF LP n_ring_Apart_1 [.sl m.length 0 r.length r.length 1 1 r.length,.ptr 0 0 1] (m ++ [(⟨ints (ci r),true⟩ : LBlk)]) = some (.W,.bool true,M) := fun M h hM => by
      have := call_W lp_ring_Apart_1 rfl h
      rw [this,hL]
      rcases hM with hM | ⟨v,hv,hu⟩
      · rw [trim_le _ _ _ (by omega)]
      · rcases trim_or (m.length + 1) [LV.bool true] M with e | ⟨e,hb⟩
        · rw [e]
        · exfalso
          unfold belowM at hb
          rw [List.all_eq_true] at hb
          rw [hb v hv] at hu; cases hu
    have hcon1 : ∀ M : LMem,contents M 1 (.lst false true 1 1 [.lst false false 1 r.length (ints (ci r))]) = some ([.lst false false 1 r.length (ints (ci r))],1) := fun M => rfl
    rcases h with ⟨rfl,h1,rfl⟩ | ⟨h0,b,hb0,h1,h2,rfl⟩
    · have h1' := up h1
      have h1'' := up1 h1
      have hap : appendL (m ++ [fb]) 1 24 (.lst true true 0 0 []) (.lst false true 1 1 [.lst false false 1 r.length (ints (ci r))]) = some (.sl (m.length + 1) 0 1 1 1 1 1,m ++ [fb] ++ [(⟨rows [r],true⟩ : LBlk)]) := by
        simp only [appendL,hcon1]
        simp [contents,newSl,LV.scalar,roomMost,nbeq,nble]
      have g0 : (m ++ [fb] ++ [(⟨rows [r],true⟩ : LBlk)])[0]? = some ⟨[.lst true true 0 0 []],true⟩ := by rw [List.getElem?_append_left (by simp)]; exact h1'
      refine ⟨(m ++ [fb] ++ [(⟨rows [r],true⟩ : LBlk)]).set 0 ⟨[.sl (m.length + 1) 0 1 1 1 1 1],true⟩,[0,m.length + 1],?_,?_,?_,fun i hi => by simp at hi ⊢; omega⟩
      · refine hcall _ ?_ (.inr ⟨⟨[.sl (m.length + 1) 0 1 1 1 1 1],true⟩,?_,?_⟩)
        · generalize hM1 : m ++ [(⟨ints (ci r),true⟩ : LBlk)] = M1 at *
          generalize hM2 : m ++ [fb] = M2 at *
          generalize ints (ci r) = row at *
          generalize hM3 : M2 ++ [(⟨rows [r],true⟩ : LBlk)] = M3 at *
          simp only [ring_Apart_1,ring_Apart_1.B,exF_seq,exF_region,exF_ret,runL,wantL,stepL,evL,evC,LEnv.at,putL,loadFine,loadL,cellsAt,Trk.calm,Trk.hit,LEnv.keep,LEnv.ofFrom,List.map_cons,List.map_nil,nbeq,nble,ofAV,ofAVs,List.any_nil,Bool.or_false,Bool.false_or,Bool.true_or,Bool.and_true,Nat.reduceEqDiff,decide_true,decide_false,cond_true,cond_false,Nat.reduceAdd,Nat.reduceLeDiff,reduceCtorEq,List.length_nil,List.length_cons,Nat.mul_one,eq_self,retL,resultsL,resAllL,resOfL,List.append_nil,List.nil_append,Nat.reduceDiv,List.getElem?_cons_zero,storeL,spliceL,List.take_zero,List.take_succ_cons,List.drop_zero,List.drop_succ_cons,List.drop_nil,List.take_nil,Nat.le_refl,List.all_cons,List.all_nil,fillL,h1'',hv,hfz,hap,g0,LV.cells,LV.scalar]
        · have : (((m ++ [fb] ++ [(⟨rows [r],true⟩ : LBlk)]).set 0 ⟨[.sl (m.length + 1) 0 1 1 1 1 1],true⟩).take (m.length + 1))[0]? = some ⟨[.sl (m.length + 1) 0 1 1 1 1 1],true⟩ := by
            rw [List.getElem?_take,if_pos (by omega),List.getElem?_set_self (by simp)]
          exact List.mem_of_getElem? this
        · simp only [LV.unders,LV.under,nblt]; simp
      · refine .inr ⟨by simp,m.length + 1,by omega,by rw [List.getElem?_set_self (by simp)]; rfl,?_,rfl⟩
        rw [List.getElem?_set_ne (by omega)]
        simp
      · refine ⟨by simp,fun i hi hn => ?_,fun i hi hN => ?_,fun hC i hi => ?_⟩
        · have : ¬ 0 = i := fun e => hn (by simp [e])
          rw [List.getElem?_set_ne this,List.append_assoc,List.getElem?_append_left hi]
        · refine NR.set ((hN.app (noRefs_int i _ _)).app (rows_noRefs i _)) ?_
          simp only [LV.noRefs,LV.noRef,nbeq,Bool.and_true,Bool.not_eq_true',decide_eq_false_iff_not]; omega
        · simp at hi
          refine NR.set ((NR.app (hC i (by omega)) (noRefs_int i _ _)).app (rows_noRefs i _)) ?_
          simp only [LV.noRefs,LV.noRef,nbeq,Bool.and_true,Bool.not_eq_true',decide_eq_false_iff_not]; omega
    · have h1' := up h1
      have h1'' := up1 h1
      have h2' := up h2
      have hbl := get_lt h2
      have hRl : 0 < R.length := List.length_pos_iff.2 h0
      have hrl : (rows R).length = R.length := by simp
      have hcs : contents (m ++ [fb]) 1 (.sl b 0 R.length R.length 1 1 R.length) = some (rows R,R.length) := by
        simp only [contents,h2']
        simp only [nbeq,nble,hrl,Nat.zero_add,Nat.mul_one,Nat.le_refl,decide_true,Bool.and_self,cond_true,List.drop_zero]
        rw [List.take_of_length_le (by simp)]
      have hap : appendL (m ++ [fb]) 1 24 (.sl b 0 R.length R.length 1 1 R.length) (.lst false true 1 1 [.lst false false 1 r.length (ints (ci r))]) = some (.sl b 0 (R.length + 1) (R.length + 1) 1 1 (R.length + 1),(m ++ [fb]).set b ⟨rows (R ++ [r]),true⟩) := by
        have e : rows (R ++ [r]) = rows R ++ [.lst false false 1 r.length (ints (ci r))] := by rw [hrow]; simp
        rw [e]
        exact app_one (m ++ [fb]) b R.length 24 (rows R) _ _ h2' hrl hRl (by omega) (by omega) (hcon1 _) rfl
      have g0 : ((m ++ [fb]).set b ⟨rows (R ++ [r]),true⟩)[0]? = some ⟨[.sl b 0 R.length R.length 1 1 R.length],true⟩ := by rw [List.getElem?_set_ne (by omega)]; exact h1'
      refine ⟨((m ++ [fb]).set b ⟨rows (R ++ [r]),true⟩).set 0 ⟨[.sl b 0 (R.length + 1) (R.length + 1) 1 1 (R.length + 1)],true⟩,[0,b],?_,?_,?_,fun i hi => .inl hi⟩
      · refine hcall _ ?_ (.inl (by simp))
        generalize hM1 : m ++ [(⟨ints (ci r),true⟩ : LBlk)] = M1 at *
        generalize hM2 : m ++ [fb] = M2 at *
        generalize ints (ci r) = row at *
        generalize hM3 : M2.set b ⟨rows (R ++ [r]),true⟩ = M3 at *
        simp only [ring_Apart_1,ring_Apart_1.B,exF_seq,exF_region,exF_ret,runL,wantL,stepL,evL,evC,LEnv.at,putL,loadFine,loadL,cellsAt,Trk.calm,Trk.hit,LEnv.keep,LEnv.ofFrom,List.map_cons,List.map_nil,nbeq,nble,ofAV,ofAVs,List.any_nil,Bool.or_false,Bool.false_or,Bool.true_or,Bool.and_true,Nat.reduceEqDiff,decide_true,decide_false,cond_true,cond_false,Nat.reduceAdd,Nat.reduceLeDiff,reduceCtorEq,List.length_nil,List.length_cons,Nat.mul_one,eq_self,retL,resultsL,resAllL,resOfL,List.append_nil,List.nil_append,Nat.reduceDiv,List.getElem?_cons_zero,storeL,spliceL,List.take_zero,List.take_succ_cons,List.drop_zero,List.drop_succ_cons,List.drop_nil,List.take_nil,Nat.le_refl,List.all_cons,List.all_nil,fillL,h1'',hv,hfz,hap,g0,LV.cells,LV.scalar]
      · refine .inr ⟨by simp,b,hb0,by rw [List.getElem?_set_self (by simp)]; simp,?_,rfl⟩
        rw [List.getElem?_set_ne (by omega),List.getElem?_set_self (by simp; omega)]
      · refine ⟨by simp,fun i hi hn => ?_,fun i hi hN => ?_,fun hC i hi => ?_⟩
        · have e0 : ¬ 0 = i := fun e => hn (by simp [e])
          have eb : ¬ b = i := fun e => hn (by simp [e])
          rw [List.getElem?_set_ne e0,List.getElem?_set_ne eb,List.getElem?_append_left hi]
        · have hbi : b ≠ i := by
            have := hN ⟨[.sl b 0 R.length R.length 1 1 R.length],true⟩ (List.mem_of_getElem? h1)
            simpa only [LV.noRefs,LV.noRef,nbeq,Bool.and_true,Bool.not_eq_true',decide_eq_false_iff_not] using this
          refine NR.set (NR.set (hN.app (noRefs_int i _ _)) (rows_noRefs i _)) ?_
          simp only [LV.noRefs,LV.noRef,nbeq,Bool.and_true,Bool.not_eq_true',decide_eq_false_iff_not]; exact hbi
        · simp at hi
          refine NR.set (NR.set (NR.app (hC i (by omega)) (noRefs_int i _ _)) (rows_noRefs i _)) ?_
          simp only [LV.noRefs,LV.noRef,nbeq,Bool.and_true,Bool.not_eq_true',decide_eq_false_iff_not]; omega
theorem ap_all (R : List (List Nat)) : ∀ (l : List (List Nat)),l.foldl apVis.vis R = R ++ l := by
  intro l
  induction l generalizing R with
  | nil => simp
  | cons a l ih =>
    rw [List.foldl_cons,ih]
    show R ++ [a] ++ l = _
    simp
theorem set_loop (nl ex : Bool) (sz : Nat) (r : List Nat) (hr : ∀ i ∈ r,i < 12) (hl : r.length < 1000) (n : Nat) : ∀ k,k + n = r.length →
    exF LP ring_set.L0 [(3,.int .i64 ((setB (r.take k) : Nat) : Int)),(6,.lst nl ex sz r.length (ints (ci r))),(7,.int .i64 (r.length : Int)),(8,.int .i64 (k : Int))] [] = some (.exit 0,[(3,.int .i64 ((setB r : Nat) : Int))],[]) := by
  induction n with
  | zero =>
    intro k hk
    rw [ring_set.L0_eq,List.take_of_length_le (by omega)]
    simp only [ring_set.B0,exF_seq,exF_region,exF_cond,exF_exit,runL,wantL,stepL,evL,LEnv.at,putL,loadFine,LEnv.keep,List.map_cons,List.map_nil,nbeq,bin_lss,Nat.reduceEqDiff,decide_true,decide_false,cond_true,cond_false,eq_self,show ¬ ((k : Int) < (r.length : Int)) by omega]
  | succ n ih =>
    intro k hk
    have h2 : k < r.length := by omega
    have ih := ih (k + 1) (by omega)
    rw [take_snoc r k h2,setB_snoc] at ih
    have hat : (ci r).map (LV.int .i64) = r.map fun y : Nat => LV.int .i64 (y : Int) := by simp
    have b0 := nat_at .i64 r k h2
    rw [← hat] at b0
    have hi := hr _ (List.getElem_mem h2)
    have hshl := sshl (show r[k] < 32 by omega)
    have hlt := setB_lt (n := 12) (r := r.take k) (fun i hi => hr i (List.mem_of_mem_take hi))
    have hpw : 2 ^ r[k] < 2 ^ 12 := Nat.pow_lt_pow_right (by omega) hi
    have hor := sor (a := setB (r.take k)) (b := 2 ^ r[k]) (by omega) (by omega)
    rw [ring_set.L0_eq]
    simp only [ints] at ih ⊢
    generalize (ci r).map (LV.int .i64) = row at *
    simp only [ring_set.B0,exF_seq,exF_region,exF_block,exF_cond,exF_skip,runL,wantL,stepL,evL,evC,LEnv.at,putL,loadFine,loadL,cellsAt,Trk.putNew,Trk.up,Trk.touch,Trk.gives,Trk.calm,opdsOf,Trk.fresh,LEnv.keep,List.map_cons,List.map_nil,nbeq,nble,nblt,bin_add,bin_lss,natL_nat,List.any_cons,List.any_nil,Bool.or_false,Bool.or_true,Bool.and_true,Bool.false_and,Bool.not_true,Bool.not_false,Nat.reduceEqDiff,decide_true,decide_false,cond_true,cond_false,List.filter_nil,Nat.reduceAdd,Nat.reduceLeDiff,List.length_nil,Nat.mul_one,eq_self,show ((k : Int) < (r.length : Int)) by omega,h2,b0,hshl,hor,wrap_succ (show k + 1 < 9223372036854775808 by omega),ih]
theorem set_c (nl ex : Bool) (sz : Nat) (r : List Nat) (hr : ∀ i ∈ r,i < 12) (hl : r.length < 1000) (m : LMem) : clF LP n_ring_set [.lst nl ex sz r.length (ints (ci r))] m = some (.P,.int .i64 ((setB r : Nat) : Int),m) := by
  refine call_P lp_ring_set rfl (by simp [LV.pures,LV.pure]) (m1 := []) ?_ rfl m
  have h := set_loop nl ex sz r hr hl r.length 0 (by omega)
  have h0 : ((setB (r.take 0) : Nat) : Int) = 0 := rfl
  rw [h0] at h
  simp only [Int.natCast_zero] at h
  simp only [ring_set,ring_set.B,exF_seq,exF_region,exF_block,exF_ret,runL,wantL,stepL,evL,evC,LEnv.at,putL,loadFine,LEnv.keep,LEnv.ofFrom,List.map_cons,List.map_nil,nbeq,lenL,Nat.reduceEqDiff,decide_true,decide_false,cond_true,cond_false,reduceCtorEq,eq_self,retL,resultsL,resAllL,resOfL,h]
end Go.Am.Ring
set_option linter.unusedVariables false
set_option linter.unusedSimpArgs false
set_option maxRecDepth 10000
namespace Go.Am.Ring
open Go.Am.G
def GoodE (f : Nat → Nat) (E : List (Nat × LV)) : Prop := ∀ e ∈ E,e.2 = .int .i64 ((f e.1 : Nat) : Int)
theorem key_or (x : Nat) : ∀ E : List (Nat × LV),(∀ e ∈ E,e.1 ≠ x) ∨ ∃ A w B,E = A ++ (x,w) :: B ∧ ∀ e ∈ A,e.1 ≠ x
  | [] => .inl (by simp)
  | (a,w) :: E => by
    by_cases c : a = x
    · subst c
      exact .inr ⟨[],w,E,rfl,by simp⟩
    · rcases key_or x E with h | ⟨A,w',B,rfl,h⟩
      · exact .inl fun e he => by
          rcases List.mem_cons.1 he with rfl | he
          · exact c
          · exact h e he
      · exact .inr ⟨(a,w) :: A,w',B,rfl,fun e he => by
          rcases List.mem_cons.1 he with rfl | he
          · exact c
          · exact h e he⟩
theorem goodE_look {f : Nat → Nat} {E : List (Nat × LV)} (hE : GoodE f E) (x : Nat) : findML (.int .i64 (x : Int)) (entM E) 0 = some none ∨ ∃ j,findML (.int .i64 (x : Int)) (entM E) 0 = some (some (j,.int .i64 ((f x : Nat) : Int))) := by
  rcases key_or x E with h | ⟨A,w,B,rfl,h⟩
  · exact .inl (find_none x E 0 h)
  · have := hE (x,w) (by simp)
    simp only at this
    subst this
    exact .inr ⟨_,find_some x _ B A 0 h⟩
theorem goodE_put {f : Nat → Nat} {E : List (Nat × LV)} (hE : GoodE f E) (x : Nat) {m : LMem} {ik : Nat} (hm : m[ik]? = some ⟨[.ents (entM E)],true⟩) : ∃ E',putML m (.map ik) (.int .i64 (x : Int)) (.int .i64 ((f x : Nat) : Int)) = some (m.set ik ⟨[.ents (entM E')],true⟩) ∧ GoodE f E' := by
  rcases key_or x E with h | ⟨A,w,B,rfl,h⟩
  · refine ⟨E ++ [(x,.int .i64 ((f x : Nat) : Int))],?_,?_⟩
    · simp only [putML,LV.isInt,cond_true,hm,find_none x E 0 h,entM_snoc]
    · intro e he
      rcases List.mem_append.1 he with h | h
      · exact hE e h
      · rw [List.mem_singleton.1 h]
  · refine ⟨A ++ (x,.int .i64 ((f x : Nat) : Int)) :: B,?_,?_⟩
    · have h1 := find_some x w B A 0 h
      have h2 := entM_set x w (.int .i64 ((f x : Nat) : Int)) B A
      simp only [putML,LV.isInt,cond_true,hm,h1,h2]
    · intro e he
      rcases List.mem_append.1 he with h | h
      · exact hE e (by simp [h])
      · rcases List.mem_cons.1 h with rfl | h
        · rfl
        · exact hE e (by simp [h])
def RowV (m : LMem) (v : LV) (ik : Nat) (R : List (List Nat)) : Prop := (R = [] ∧ v = .lst true true 0 0 []) ∨ ∃ b,b < ik ∧ v = .sl b 0 R.length R.length 1 1 R.length ∧ m[b]? = some ⟨rows R,true⟩
structure MA (R : List (List Nat)) (v : LV) (ik : Nat) (m : LMem) : Prop where
  pos : 0 < ik
  c0 : m[0]? = some ⟨[v],true⟩
  rv : RowV m v ik R
  cm : m[ik + 1]? = some ⟨[.map ik],true⟩
  cf : m[ik + 2]? = some ⟨[.func n_ring_Apart_2 [] [.ptr (ik + 1) 0 1,.ptr 0 0 1,.ptr (ik + 2) 0 1]],true⟩
theorem MA.mono {R : List (List Nat)} {v : LV} {ik : Nat} {m m' : LMem} (h : MA R v ik m) (e : ∀ i,i < ik + 3 → i ≠ ik → m'[i]? = m[i]?) : MA R v ik m' := by
  have := h.pos
  refine ⟨h.pos,by rw [e 0 (by omega) (by omega)]; exact h.c0,?_,by rw [e _ (by omega) (by omega)]; exact h.cm,by rw [e _ (by omega) (by omega)]; exact h.cf⟩
  rcases h.rv with h | ⟨b,h1,h2,h3⟩
  · exact .inl h
  · exact .inr ⟨b,h1,h2,by rw [e b (by omega) (by omega)]; exact h3⟩
def mE (m : LMem) (ik : Nat) (E : List (Nat × LV)) : LMem := m.set ik ⟨[.ents (entM E)],true⟩
theorem mE_get {m : LMem} {ik : Nat} {E : List (Nat × LV)} {i : Nat} (h : ¬ ik = i) : (mE m ik E)[i]? = m[i]? := by rw [mE,List.getElem?_set_ne h]
theorem mE_ik {m : LMem} {ik : Nat} {E : List (Nat × LV)} (h : ik < m.length) : (mE m ik E)[ik]? = some ⟨[.ents (entM E)],true⟩ := by rw [mE,List.getElem?_set_self h]
theorem mE_len {m : LMem} {ik : Nat} {E : List (Nat × LV)} : (mE m ik E).length = m.length := by simp [mE]
theorem mE_set {m : LMem} {ik : Nat} {E E' : List (Nat × LV)} : (mE m ik E).set ik ⟨[.ents (entM E')],true⟩ = mE m ik E' := by simp [mE,List.set_set]
def stepN (R : List (List Nat)) (U : Nat) (n : Nat) (r : List Nat) : Nat := if decide (setB r &&& U = 0) = true then (if n < 1 + mU R (U ||| setB r) then 1 + mU R (U ||| setB r) else n) else n
def MostOk (R : List (List Nat)) (ik : Nat) (m : LMem) (U : Nat) : Prop := ∀ E,GoodE (mU R) E → ∃ E',clF LP n_ring_Apart_2 [.int .i64 (U : Int),.ptr (ik + 1) 0 1,.ptr 0 0 1,.ptr (ik + 2) 0 1] (mE m ik E) = some (.W,.int .i64 ((mU R U : Nat) : Int),mE m ik E') ∧ GoodE (mU R) E'
theorem most_loop (R : List (List Nat)) (hR : ∀ r ∈ R,(∀ i ∈ r,i < 12) ∧ r.length < 1000) (hRl : R.length < 1000000000) (v : LV) (ik : Nat) (m : LMem) (M : MA R v ik m) (U : Nat) (hU : U < 4096) (hrec : ∀ r ∈ R,setB r &&& U = 0 → MostOk R ik m (U ||| setB r)) (j : Nat) : ∀ (k n : Nat) (E : List (Nat × LV)),k + j = R.length → n < 1000000001 → GoodE (mU R) E →
    ∃ E',exF LP ring_Apart_2.L0 [(0,.int .i64 (U : Int)),(1,.ptr (ik + 1) 0 1),(3,.ptr (ik + 2) 0 1),(8,.int .i64 (n : Int)),(20,v),(21,.int .i64 (R.length : Int)),(22,.int .i64 (k : Int))] (mE m ik E) = some (.exit 0,[(0,.int .i64 (U : Int)),(1,.ptr (ik + 1) 0 1),(8,.int .i64 (((R.drop k).foldl (stepN R U) n : Nat) : Int))],mE m ik E') ∧ GoodE (mU R) E' := by
  induction j with
  | zero =>
    intro k n E hk _ hE
    refine ⟨E,?_,hE⟩
    rw [ring_Apart_2.L0_eq,List.drop_eq_nil_of_le (show R.length ≤ k by omega),List.foldl_nil]
    simp only [ring_Apart_2.B0,exF_seq,exF_region,exF_cond,exF_exit,runL,wantL,stepL,evL,LEnv.at,putL,loadFine,LEnv.keep,List.map_cons,List.map_nil,nbeq,bin_lss,Nat.reduceEqDiff,decide_true,decide_false,cond_true,cond_false,reduceCtorEq,eq_self,show ¬ ((k : Int) < (R.length : Int)) by omega]
  | succ j ih =>
    intro k n E hk hn hE
    have h2 : k < R.length := by omega
    have hkk : (k : Int) < (R.length : Int) := by omega
    have hw := wrap_succ (show k + 1 < 9223372036854775808 by omega)
    have hmem : R[k] ∈ R := List.getElem_mem h2
    obtain ⟨hr12,hrl⟩ := hR _ hmem
    have ra := rowN_at R k h2
    have hset := fun M => set_c false false 1 R[k] hr12 hrl M
    have hcl := ci_len R[k]
    have hsb : setB R[k] < 4096 := setB_lt (n := 12) hr12
    have hand := sand (a := setB R[k]) (b := U) (by omega) (by omega)
    have hor := sor (a := U) (b := setB R[k]) (by omega) (by omega)
    have hrow : rlv (ci R[k]) = .lst false false 1 R[k].length (ints (ci R[k])) := by simp only [rlv,IL,hcl]
    rw [hrow] at ra
    obtain ⟨b,hb,hv,hbr⟩ : ∃ b,b < ik ∧ v = .sl b 0 R.length R.length 1 1 R.length ∧ m[b]? = some ⟨rows R,true⟩ := by
      rcases M.rv with ⟨h,_⟩ | h
      · rw [h] at h2; simp at h2
      · exact h
    have hbm : (mE m ik E)[b]? = some ⟨rows R,true⟩ := by rw [mE_get (by omega)]; exact hbr
    have hbl := get_lt hbr
    have hrwl : (rows R).length = R.length := by simp
    have hcf : ∀ E,(mE m ik E)[ik + 2]? = some ⟨[.func n_ring_Apart_2 [] [.ptr (ik + 1) 0 1,.ptr 0 0 1,.ptr (ik + 2) 0 1]],true⟩ := fun E => by rw [mE_get (by omega)]; exact M.cf
    have hfl := get_lt M.cf
    rw [List.drop_eq_getElem_cons h2,List.foldl_cons]
    subst hv
    have hvw : ∀ E,views (mE m ik E) [.lst false false 1 R[k].length (ints (ci R[k]))] = some ([.lst false false 1 R[k].length (ints (ci R[k]))],[]) := fun E => views_pures _ _ (by simp [LV.pures,LV.pure])
    by_cases c : setB R[k] &&& U = 0
    · have c' : ((setB R[k] &&& U : Nat) : Int) = 0 := by omega
      obtain ⟨E1,hc,hE1⟩ := hrec _ hmem c E hE
      have hmu := mU_le R (U ||| setB R[k])
      have hw1 : IntKind.i64.wrap (1 + ((mU R (U ||| setB R[k]) : Nat) : Int)) = ((1 + mU R (U ||| setB R[k]) : Nat) : Int) := by rw [wrap_in (by omega)]; omega
      have hst : stepN R U n R[k] = if n < 1 + mU R (U ||| setB R[k]) then 1 + mU R (U ||| setB R[k]) else n := by unfold stepN; rw [if_pos (decide_eq_true c)]
      have hmax : (if ((n : Nat) : Int) < ((1 + mU R (U ||| setB R[k]) : Nat) : Int) then ((1 + mU R (U ||| setB R[k]) : Nat) : Int) else ((n : Nat) : Int)) = ((stepN R U n R[k] : Nat) : Int) := by
        rw [hst]
        by_cases c3 : n < 1 + mU R (U ||| setB R[k])
        · have c4 : ((n : Nat) : Int) < ((1 + mU R (U ||| setB R[k]) : Nat) : Int) := by omega
          rw [if_pos c3,if_pos c4]
        · have c4 : ¬ ((n : Nat) : Int) < ((1 + mU R (U ||| setB R[k]) : Nat) : Int) := by omega
          rw [if_neg c3,if_neg c4]
      have hsn : stepN R U n R[k] < 1000000001 := by
        rw [hst]
        split <;> omega
      obtain ⟨E2,hex,hE2⟩ := ih (k + 1) (stepN R U n R[k]) E1 (by omega) hsn hE1
      refine ⟨E2,?_,hE2⟩
      generalize ((R.drop (k + 1)).foldl (stepN R U) (stepN R U n R[k]) : Nat) = fin at *
      generalize (stepN R U n R[k] : Nat) = sn at *
      rw [ring_Apart_2.L0_eq]
      generalize hm1 : mE m ik E = m1 at *
      generalize hm2 : mE m ik E1 = m2 at *
      generalize hm3 : mE m ik E2 = m3 at *
      have hcf1 : m1[ik + 2]? = some ⟨[.func n_ring_Apart_2 [] [.ptr (ik + 1) 0 1,.ptr 0 0 1,.ptr (ik + 2) 0 1]],true⟩ := by rw [← hm1]; exact hcf E
      generalize rows R = RR at *
      generalize ints (ci R[k]) = row at *
      generalize R[k].length = rl at *
      generalize setB R[k] = s at *
      simp only [ring_Apart_2.B0,exF_seq,exF_region,exF_block,exF_cond,exF_skip,runL,wantL,stepL,evL,evC,LEnv.at,putL,loadFine,loadL,cellsAt,Trk.putNew,Trk.up,Trk.touch,Trk.gives,Trk.calm,Trk.hit,opdsOf,Trk.fresh,LEnv.keep,List.map_cons,List.map_nil,nbeq,nble,nblt,ofAVs,bin_add,bin_eql,bin_lss,natL_nat,List.any_cons,List.any_nil,Bool.or_false,Bool.false_or,Bool.true_or,Bool.and_true,Nat.reduceEqDiff,decide_true,decide_false,cond_true,cond_false,List.filter_nil,Nat.reduceAdd,Nat.reduceLeDiff,reduceCtorEq,List.length_nil,List.length_cons,Nat.mul_one,eq_self,List.append_nil,List.nil_append,List.cons_append,List.getElem?_cons_zero,List.take_succ_cons,List.drop_zero,List.take_nil,Nat.le_refl,foldIntL,kind_beq,Nat.zero_add,hkk,h2,hbm,hrwl,ra,hset,hand,c',hor,hcf1,hc,hw1,hmax,hw,hex]
    · have c' : ¬ ((setB R[k] &&& U : Nat) : Int) = 0 := by omega
      have hsn : stepN R U n R[k] = n := by rw [stepN,if_neg (by simpa using c)]
      rw [hsn]
      obtain ⟨E2,hex,hE2⟩ := ih (k + 1) n E (by omega) hn hE
      refine ⟨E2,?_,hE2⟩
      rw [ring_Apart_2.L0_eq]
      generalize hm1 : mE m ik E = m1 at *
      generalize hm3 : mE m ik E2 = m3 at *
      generalize ((R.drop (k + 1)).foldl (stepN R U) n : Nat) = fin at *
      generalize rows R = RR at *
      generalize ints (ci R[k]) = row at *
      generalize R[k].length = rl at *
      generalize setB R[k] = s at *
      simp only [ring_Apart_2.B0,exF_seq,exF_region,exF_block,exF_cond,exF_skip,runL,wantL,stepL,evL,evC,LEnv.at,putL,loadFine,loadL,cellsAt,Trk.putNew,Trk.up,Trk.touch,Trk.gives,Trk.calm,Trk.hit,opdsOf,Trk.fresh,LEnv.keep,List.map_cons,List.map_nil,nbeq,nble,nblt,ofAVs,bin_add,bin_eql,bin_lss,natL_nat,List.any_cons,List.any_nil,Bool.or_false,Bool.false_or,Bool.true_or,Bool.and_true,Nat.reduceEqDiff,decide_true,decide_false,cond_true,cond_false,List.filter_nil,Nat.reduceAdd,Nat.reduceLeDiff,reduceCtorEq,Nat.mul_one,eq_self,List.append_nil,List.nil_append,Nat.zero_add,hkk,h2,hbm,hrwl,ra,hset,hand,c',hw,hex]
theorem most_c (R : List (List Nat)) (hne : ∀ q ∈ R,q ≠ []) (hR : ∀ r ∈ R,(∀ i ∈ r,i < 12) ∧ r.length < 1000) (hRl : R.length < 1000000000) (v : LV) (ik : Nat) (m : LMem) (M : MA R v ik m) : ∀ (d U : Nat),mU R U ≤ d → U < 4096 → MostOk R ik m U := by
  intro d
  induction d with
  | zero =>
    intro U hd hU
    exact go 0 U hU fun r hr hdis => by
      have := mU_step hne hr hdis
      omega
  | succ d ih =>
    intro U hd hU
    exact go d U hU fun r hr hdis => by
      have := mU_step hne hr hdis
      refine ih _ (by omega) ?_
      exact Nat.or_lt_two_pow (n := 12) hU (setB_lt (hR r hr).1)
where
  go (d U : Nat) (hU : U < 4096) (hrec : ∀ r ∈ R,setB r &&& U = 0 → MostOk R ik m (U ||| setB r)) : MostOk R ik m U := by
    intro E hE
    have hikl : ik < m.length := by have := get_lt M.cm; omega
    have hcm : ∀ E,(mE m ik E)[ik + 1]? = some ⟨[.map ik],true⟩ := fun E => by rw [mE_get (by omega)]; exact M.cm
    have hc0 : ∀ E,(mE m ik E)[0]? = some ⟨[v],true⟩ := fun E => by rw [mE_get (by have := M.pos; omega)]; exact M.c0
    have hend : ∀ E' : List (Nat × LV),trim (mE m ik E).length [.int .i64 ((mU R U : Nat) : Int)] (mE m ik E') = mE m ik E' := fun E' => trim_le _ _ _ (by rw [mE_len,mE_len]; exact Nat.le_refl _)
    rcases goodE_look hE U with hl | ⟨q,hl⟩
    · have hlk : lookL (mE m ik E) true (.int .i64 0) (.map ik) (.int .i64 (U : Int)) = some (.tup [.int .i64 0,.bool false]) := by
        simp only [lookL,LV.isInt,cond_true,entsL,mE_ik hikl,hl]
      obtain ⟨E1,hex,hE1⟩ := most_loop R hR hRl v ik m M U hU hrec R.length 0 0 E (by omega) (by omega) hE
      have hrc := mU_rec hne U
      have hfold : (R.drop 0).foldl (stepN R U) 0 = mU R U := by rw [List.drop_zero]; exact hrc.symm
      rw [hfold] at hex
      obtain ⟨E2,hput,hE2⟩ := goodE_put hE1 U (mE_ik hikl)
      rw [mE_set] at hput
      refine ⟨E2,?_,hE2⟩
      have hlv : lenL v = some R.length := by
        rcases M.rv with ⟨rfl,rfl⟩ | ⟨b,_,rfl,_⟩ <;> rfl
      rw [← hend E2]
      refine call_W lp_ring_Apart_2 rfl ?_
      simp only [Int.natCast_zero] at hex
      have hcm1 := hcm E
      have hcm2 := hcm E1
      have hc01 := hc0 E
      generalize hm1 : mE m ik E = m1 at *
      generalize hm2 : mE m ik E1 = m2 at *
      generalize hm3 : mE m ik E2 = m3 at *
      generalize (mU R U : Nat) = n at *
      simp only [ring_Apart_2,ring_Apart_2.B,exF_seq,exF_region,exF_block,exF_cond,exF_ret,exF_skip,runL,wantL,stepL,evL,evC,LEnv.at,putL,loadFine,loadL,cellsAt,Trk.calm,Trk.hit,LEnv.keep,LEnv.ofFrom,List.map_cons,List.map_nil,nbeq,nble,ofAV,List.any_nil,Bool.or_false,Bool.false_or,Bool.true_or,Bool.and_true,Nat.reduceEqDiff,decide_true,decide_false,cond_true,cond_false,Nat.reduceAdd,Nat.reduceLeDiff,reduceCtorEq,List.length_nil,List.length_cons,eq_self,retL,resultsL,resAllL,resOfL,List.getElem?_cons_zero,List.getElem?_cons_succ,List.take_succ_cons,List.drop_zero,List.take_nil,Nat.le_refl,hcm1,hlk,hc01,hlv,hex,hcm2,hput]
    · have hlk : lookL (mE m ik E) true (.int .i64 0) (.map ik) (.int .i64 (U : Int)) = some (.tup [.int .i64 ((mU R U : Nat) : Int),.bool true]) := by
        simp only [lookL,LV.isInt,cond_true,entsL,mE_ik hikl,hl]
      refine ⟨E,?_,hE⟩
      have hcm1 := hcm E
      refine (call_W (v := .int .i64 ((mU R U : Nat) : Int)) (m1 := mE m ik E) lp_ring_Apart_2 rfl ?_).trans (by rw [hend E])
      generalize hm1 : mE m ik E = m1 at *
      generalize (mU R U : Nat) = n at *
      simp only [ring_Apart_2,ring_Apart_2.B,exF_seq,exF_region,exF_cond,exF_ret,runL,wantL,stepL,evL,evC,LEnv.at,putL,loadFine,loadL,cellsAt,Trk.calm,Trk.hit,LEnv.keep,LEnv.ofFrom,List.map_cons,List.map_nil,nbeq,nble,ofAV,List.any_nil,Bool.or_false,Bool.false_or,Bool.true_or,Bool.and_true,Nat.reduceEqDiff,decide_true,decide_false,cond_true,cond_false,Nat.reduceAdd,Nat.reduceLeDiff,reduceCtorEq,List.length_nil,List.length_cons,eq_self,retL,resultsL,resAllL,resOfL,List.getElem?_cons_zero,List.getElem?_cons_succ,List.take_succ_cons,List.drop_zero,List.take_nil,Nat.le_refl,hcm1,hlk]
end Go.Am.Ring
