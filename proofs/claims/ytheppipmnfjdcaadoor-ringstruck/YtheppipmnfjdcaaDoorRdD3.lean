/-
  What functions of chapter 04 compute, outright 3: whether finds make no ring, whether a list is a ring, lists compared.
-/
import Derived.Test.YtheppipmnfjdcaaDoorRdP10
import Derived.Test.YtheppipmnfjdcaaDoorRdD1
set_option linter.unusedVariables false
set_option linter.unusedSimpArgs false
set_option maxRecDepth 10000
namespace Go.Am.Ring
open Go.Am.G
theorem andN_zero {a b : Nat} (ha : a < 18446744073709551616) : andN a b = 0 ↔ a &&& b = a := by
  constructor
  · intro h
    apply Nat.eq_of_testBit_eq
    intro i
    have := congrArg (·.testBit i) h
    simp only [andN_bit a b i ha,Nat.zero_testBit,Bool.and_eq_false_imp,Bool.not_eq_false'] at this
    rw [Nat.testBit_and]
    cases c : a.testBit i
    · rfl
    · rw [this c]; rfl
  · intro h
    apply Nat.eq_of_testBit_eq
    intro i
    rw [andN_bit a b i ha,Nat.zero_testBit]
    have := congrArg (·.testBit i) h
    simp only [Nat.testBit_and] at this
    cases c : a.testBit i <;> simp_all
theorem rl_loop0 {n : Nat} {P : List (Nat × Nat)} (G : Good n P) (nl ex : Bool) (sz : Nat) (S left : Nat) (hS : S < 4096) (hl : left < 64) (j : Nat) : ∀ (k : Nat) (M : LMem),k + j = P.length →
    ∃ M',exF LP law04_ringless.L0 [(1,FN nl ex sz P),(2,.int .u64 (S : Int)),(7,.int .u64 (left : Int)),(8,.int .u64 ((latK P S left k : Nat) : Int)),(16,FN nl ex sz P),(17,.int .i64 (P.length : Int)),(18,.int .i64 (k : Int))] M = some (.exit 2,[(1,FN nl ex sz P),(2,.int .u64 (S : Int)),(7,.int .u64 (left : Int)),(8,.int .u64 ((latN P S left : Nat) : Int))],M') := by
  have h12 := G.le12
  have h6 := G.le6
  induction j with
  | zero =>
    intro k M hk
    obtain rfl : k = P.length := by omega
    refine ⟨M,?_⟩
    rw [law04_ringless.L0_eq]
    simp only [law04_ringless.B0,exF_seq,exF_region,exF_cond,exF_exit,runL,wantL,stepL,evL,LEnv.at,putL,loadFine,LEnv.keep,List.map_cons,List.map_nil,nbeq,bin_lss,Nat.reduceEqDiff,decide_true,decide_false,cond_true,cond_false,eq_self,Int.lt_irrefl]
  | succ j ih =>
    intro k M hk
    have h2 : k < P.length := by omega
    have hkk : (k : Int) < (P.length : Int) := by omega
    have hw := wrap_succ (show k + 1 < 9223372036854775808 by omega)
    have seg := pcSE P k h2
    have ok := pcN_ok P k h2
    have hst := st_lt G h2
    have hs1 := bits_shr (a := S) (show k < 64 by omega)
    have ha1 := bits_and1 (a := S / 2 ^ k) (Nat.lt_of_le_of_lt (Nat.div_le_self _ _) (by omega))
    have hb1 := bit_dec S k
    have hs2 := bits_shr (a := left) (show st P k < 64 by omega)
    have ha2 := bits_and1 (a := left / 2 ^ st P k) (Nat.lt_of_le_of_lt (Nat.div_le_self _ _) (by omega))
    have hb2 := bit_dec left (st P k)
    have hlt := latK_lt G S left k (by omega)
    have hpw : 2 ^ en P k < 2 ^ 6 := Nat.pow_lt_pow_right (by omega) (by omega)
    have hshl := bits_shl (show en P k < 64 by omega)
    have hor := bits_or (a := latK P S left k) (b := 2 ^ en P k) (by omega) (by omega)
    obtain ⟨M',ih⟩ := ih (k + 1) (M ++ [⟨[.int .i64 ((st P k : Nat) : Int),.int .i64 ((en P k : Nat) : Int)],true⟩]) (by omega)
    refine ⟨M',?_⟩
    rw [latK_succ] at ih
    rw [law04_ringless.L0_eq]
    simp only [FN_eq] at ih ⊢
    cases c1 : S.testBit k
    · rw [c1] at hb1
      rw [if_neg (by simp [c1])] at ih
      simp only [law04_ringless.B0,law04_ringless.B0.R0,beqT,exF_seq,exF_region,exF_block,exF_cond,exF_skip,runL,wantL,stepL,evL,evC,LEnv.at,putL,loadFine,loadL,cellsAt,Trk.putNew,Trk.up,Trk.touch,Trk.gives,Trk.calm,opdsOf,Trk.fresh,LEnv.keep,List.map_cons,List.map_nil,nbeq,nble,nblt,ofAV,ofAVs,bin_add,bin_eql,bin_lss,natL_nat,List.any_cons,List.any_nil,Bool.or_false,Bool.or_true,Bool.and_true,Bool.false_and,Bool.not_true,Bool.not_false,Nat.reduceEqDiff,decide_true,decide_false,cond_true,cond_false,List.filter_nil,Nat.reduceAdd,Nat.reduceLeDiff,List.length_nil,List.length_cons,eq_self,List.append_nil,List.nil_append,LV.cells,allocL,storeL,spliceL,List.take_zero,List.drop_succ_cons,List.drop_nil,Nat.le_refl,LV.scalar,List.all_cons,List.all_nil,hkk,h2,seg,ok,set_last,get_last,hs1,ha1,hb1,hw,ih]
    · rw [c1] at hb1
      cases c2 : left.testBit (st P k)
      · rw [c2] at hb2
        rw [if_neg (by simp [c2])] at ih
        simp only [law04_ringless.B0,law04_ringless.B0.R0,beqT,exF_seq,exF_region,exF_block,exF_cond,exF_skip,runL,wantL,stepL,evL,evC,LEnv.at,putL,loadFine,loadL,cellsAt,Trk.putNew,Trk.up,Trk.touch,Trk.gives,Trk.calm,Trk.hit,opdsOf,Trk.fresh,LEnv.keep,List.map_cons,List.map_nil,nbeq,nble,nblt,ofAV,ofAVs,bin_add,bin_eql,bin_lss,natL_nat,natL_zero,List.any_cons,List.any_nil,Bool.or_false,Bool.false_or,Bool.true_or,Bool.or_true,Bool.and_true,Bool.false_and,Bool.not_true,Bool.not_false,Nat.reduceEqDiff,decide_true,decide_false,cond_true,cond_false,List.filter_nil,Nat.reduceAdd,Nat.reduceLeDiff,List.length_nil,List.length_cons,Nat.mul_one,eq_self,List.append_nil,List.nil_append,LV.cells,allocL,List.getElem?_cons_zero,storeL,spliceL,List.take_zero,List.take_succ_cons,List.drop_zero,List.drop_succ_cons,List.drop_nil,Nat.le_refl,LV.scalar,List.all_cons,List.all_nil,Nat.reduceLT,List.length_append,Nat.add_zero,hkk,h2,seg,ok,set_last,get_last,hs1,ha1,hb1,hs2,ha2,hb2,hw,ih]
      · rw [c2] at hb2
        rw [if_pos ⟨c1,c2⟩] at ih
        simp only [law04_ringless.B0,law04_ringless.B0.R0,beqT,exF_seq,exF_region,exF_block,exF_cond,exF_skip,runL,wantL,stepL,evL,evC,LEnv.at,putL,loadFine,loadL,cellsAt,Trk.putNew,Trk.up,Trk.touch,Trk.gives,Trk.calm,Trk.hit,opdsOf,Trk.fresh,LEnv.keep,List.map_cons,List.map_nil,nbeq,nble,nblt,ofAV,ofAVs,bin_add,bin_eql,bin_lss,natL_nat,natL_zero,natL_one,List.any_cons,List.any_nil,Bool.or_false,Bool.false_or,Bool.true_or,Bool.or_true,Bool.and_true,Bool.false_and,Bool.not_true,Bool.not_false,Nat.reduceEqDiff,decide_true,decide_false,cond_true,cond_false,List.filter_nil,Nat.reduceAdd,Nat.reduceLeDiff,List.length_nil,List.length_cons,Nat.mul_one,eq_self,List.append_nil,List.nil_append,LV.cells,allocL,List.getElem?_cons_zero,List.getElem?_cons_succ,storeL,spliceL,List.take_zero,List.take_succ_cons,List.drop_zero,List.drop_succ_cons,List.drop_nil,List.take_nil,Nat.le_refl,LV.scalar,List.all_cons,List.all_nil,Nat.lt_add_one,Nat.reduceLT,List.length_append,Nat.add_zero,hkk,h2,seg,ok,set_last,get_last,hs1,ha1,hb1,hs2,ha2,hb2,hshl,hor,hw,ih]
theorem rl_loop1 {n : Nat} {P : List (Nat × Nat)} (G : Good n P) (nl ex : Bool) (sz : Nat) (S : Nat) (hS : S < 4096) : ∀ (u left : Nat) (M : LMem),left < 64 → left ≤ u →
    ∃ M',exF LP law04_ringless.L1 [(1,FN nl ex sz P),(2,.int .u64 (S : Int)),(7,.int .u64 (left : Int))] M = if rlF P S u left = true then some (.exit 0,[],M') else some (.ret,[(6,.bool false)],M')
  | 0,left,M,_,h => by
    obtain rfl : left = 0 := by omega
    refine ⟨M,?_⟩
    rw [law04_ringless.L1_eq,if_pos (show rlF P S 0 0 = true from rfl)]
    simp only [law04_ringless.B1,exF_seq,exF_region,exF_cond,exF_exit,runL,wantL,stepL,evL,evC,LEnv.at,putL,loadFine,LEnv.keep,List.map_cons,List.map_nil,nbeq,bin_neq,Nat.reduceEqDiff,decide_true,decide_false,cond_true,cond_false,eq_self,not_true_eq_false,ne_eq,Int.natCast_zero]
  | u + 1,left,M,hl,h => by
    rw [rlF]
    by_cases h0 : left = 0
    · subst h0
      refine ⟨M,?_⟩
      rw [law04_ringless.L1_eq,if_pos (by rw [if_pos rfl])]
      simp only [law04_ringless.B1,exF_seq,exF_region,exF_cond,exF_exit,runL,wantL,stepL,evL,evC,LEnv.at,putL,loadFine,LEnv.keep,List.map_cons,List.map_nil,nbeq,bin_neq,Nat.reduceEqDiff,decide_true,decide_false,cond_true,cond_false,eq_self,not_true_eq_false,ne_eq,Int.natCast_zero]
    · rw [if_neg h0]
      have h0' : ¬ (left : Int) = 0 := by omega
      obtain ⟨M1,he⟩ := rl_loop0 G nl ex sz S left hS hl P.length 0 M (by omega)
      have hk0 : ((latK P S left 0 : Nat) : Int) = 0 := rfl
      rw [hk0] at he
      simp only [Int.natCast_zero] at he
      have hlt : latN P S left < 64 := latK_lt G S left P.length (Nat.le_refl _)
      have han := bits_andNot (a := left) (b := latN P S left) (by omega) (by omega)
      have hz := andN_zero (a := left) (b := latN P S left) (by omega)
      by_cases c : left &&& latN P S left = left
      · refine ⟨M1,?_⟩
        rw [if_pos c,if_neg (by simp)]
        have hz' : ((andN left (latN P S left) : Nat) : Int) = 0 := by rw [hz.2 c]; rfl
        rw [law04_ringless.L1_eq]
        generalize (andN left (latN P S left) : Nat) = q at *
        simp only [FN_eq] at he ⊢
        simp only [law04_ringless.B1,exF_seq,exF_region,exF_block,exF_cond,exF_ret,exF_skip,runL,wantL,stepL,evL,evC,LEnv.at,putL,loadFine,LEnv.keep,List.map_cons,List.map_nil,nbeq,lenL,bin_eql,bin_neq,Nat.reduceEqDiff,decide_true,decide_false,cond_true,cond_false,eq_self,not_false_eq_true,ne_eq,h0',he,han,hz']
      · rw [if_neg c]
        have hle := and_le left (latN P S left)
        obtain ⟨M2,he2⟩ := rl_loop1 G nl ex sz S hS u (left &&& latN P S left) M1 (by omega) (by omega)
        refine ⟨M2,?_⟩
        rw [← he2]
        have hz' : ¬ ((andN left (latN P S left) : Nat) : Int) = 0 := fun e => c (hz.1 (by omega))
        have hand := bits_and (a := left) (b := latN P S left) (by omega) (by omega)
        rw [law04_ringless.L1_eq]
        generalize (andN left (latN P S left) : Nat) = q at *
        generalize (left &&& latN P S left : Nat) = q2 at *
        simp only [FN_eq] at he ⊢
        simp only [law04_ringless.B1,exF_seq,exF_region,exF_block,exF_cond,exF_skip,runL,wantL,stepL,evL,evC,LEnv.at,putL,loadFine,LEnv.keep,List.map_cons,List.map_nil,nbeq,lenL,bin_eql,bin_neq,Nat.reduceEqDiff,decide_true,decide_false,cond_true,cond_false,eq_self,not_false_eq_true,ne_eq,h0',he,han,hz',hand]
theorem ringless_c {n : Nat} {P : List (Nat × Nat)} (G : Good n P) (nl ex : Bool) (sz : Nat) (S : Nat) (hS : S < 4096) (m : LMem) : clF LP n_law04_ringless [.int .i64 (n : Int),FN nl ex sz P,.int .u64 (S : Int)] m = some (.P,.bool (decide (allR (subP P S) = [])),m) := by
  have h6 := G.le6
  have hpos := Nat.pow_pos (a := 2) (n := n) (by omega)
  have hp64 : 2 ^ n ≤ 2 ^ 6 := Nat.pow_le_pow_right (by omega) h6
  obtain ⟨M',he⟩ := rl_loop1 G nl ex sz S hS (2 ^ n - 1) (2 ^ n - 1) [] (by omega) (Nat.le_refl _)
  rw [rlF_all G S] at he
  have hshl := bits_shl (show n < 64 by omega)
  have hsub := bits_pred (a := 2 ^ n) (by omega) hpos
  refine call_P lp_law04_ringless rfl (by simp [LV.pures,LV.pure]) (m1 := M') ?_ rfl m
  generalize (2 ^ n - 1 : Nat) = full at *
  generalize (2 ^ n : Nat) = pw at *
  by_cases c : allR (subP P S) = []
  · rw [decide_eq_true c] at he ⊢
    rw [if_pos rfl] at he
    simp only [FN_eq] at he ⊢
    simp only [law04_ringless,law04_ringless.B,exF_seq,exF_region,exF_block,exF_ret,runL,wantL,stepL,evL,evC,LEnv.at,putL,loadFine,LEnv.keep,LEnv.ofFrom,List.map_cons,List.map_nil,nbeq,Nat.reduceEqDiff,decide_true,decide_false,cond_true,cond_false,Nat.reduceAdd,reduceCtorEq,eq_self,retL,resultsL,resAllL,resOfL,hshl,hsub,he]
  · rw [decide_eq_false c] at he ⊢
    rw [if_neg (by simp)] at he
    simp only [FN_eq] at he ⊢
    simp only [law04_ringless,law04_ringless.B,exF_seq,exF_region,exF_block,runL,wantL,stepL,evL,evC,LEnv.at,putL,loadFine,LEnv.keep,LEnv.ofFrom,List.map_cons,List.map_nil,nbeq,Nat.reduceEqDiff,decide_true,decide_false,cond_true,cond_false,Nat.reduceAdd,reduceCtorEq,eq_self,retL,resultsL,resAllL,resOfL,hshl,hsub,he]
theorem nan_c (x : Int) (m : LMem) : clF LP n_cmp_isNaN_int [.int .i64 x] m = some (.P,.bool false,m) := by
  refine call_P lp_cmp_isNaN_int rfl rfl (m1 := []) ?_ rfl m
  simp only [cmp_isNaN_int,cmp_isNaN_int.B,exF_seq,exF_region,exF_ret,runL,wantL,stepL,evL,evC,LEnv.at,putL,loadFine,LEnv.keep,LEnv.ofFrom,List.map_cons,List.map_nil,nbeq,bin_neq,Nat.reduceEqDiff,decide_true,decide_false,cond_true,cond_false,reduceCtorEq,eq_self,retL,resultsL,resAllL,resOfL,not_true_eq_false,ne_eq]
theorem cmpI_c (x y : Nat) (m : LMem) : clF LP n_cmp_Compare_int [.int .i64 (x : Int),.int .i64 (y : Int)] m = some (.P,.int .i64 (if x < y then -1 else if y < x then 1 else 0),m) := by
  refine call_P lp_cmp_Compare_int rfl rfl (m1 := []) ?_ rfl m
  by_cases h1 : x < y
  · have h1' : (x : Int) < (y : Int) := by omega
    rw [if_pos h1]
    simp only [cmp_Compare_int,cmp_Compare_int.B,exF_seq,exF_region,exF_cond,exF_ret,exF_skip,runL,wantL,stepL,evL,evC,LEnv.at,putL,loadFine,LEnv.keep,LEnv.ofFrom,List.map_cons,List.map_nil,nbeq,ofAVs,bin_lss,Nat.reduceEqDiff,decide_true,decide_false,cond_true,cond_false,Nat.reduceAdd,reduceCtorEq,eq_self,retL,resultsL,resAllL,resOfL,List.append_nil,List.nil_append,nan_c,h1']
  · have h1' : ¬ (x : Int) < (y : Int) := by omega
    rw [if_neg h1]
    by_cases h2 : y < x
    · have h2' : (y : Int) < (x : Int) := by omega
      rw [if_pos h2]
      simp only [cmp_Compare_int,cmp_Compare_int.B,exF_seq,exF_region,exF_cond,exF_ret,exF_skip,runL,wantL,stepL,evL,evC,LEnv.at,putL,loadFine,LEnv.keep,LEnv.ofFrom,List.map_cons,List.map_nil,nbeq,ofAVs,bin_lss,bin_gtr,Nat.reduceEqDiff,decide_true,decide_false,cond_true,cond_false,Nat.reduceAdd,reduceCtorEq,eq_self,retL,resultsL,resAllL,resOfL,List.append_nil,List.nil_append,nan_c,h1',h2']
    · have h2' : ¬ (y : Int) < (x : Int) := by omega
      rw [if_neg h2]
      simp only [cmp_Compare_int,cmp_Compare_int.B,exF_seq,exF_region,exF_cond,exF_ret,exF_skip,runL,wantL,stepL,evL,evC,LEnv.at,putL,loadFine,LEnv.keep,LEnv.ofFrom,List.map_cons,List.map_nil,nbeq,ofAVs,bin_lss,bin_gtr,Nat.reduceEqDiff,decide_true,decide_false,cond_true,cond_false,Nat.reduceAdd,reduceCtorEq,eq_self,retL,resultsL,resAllL,resOfL,List.append_nil,List.nil_append,nan_c,h1',h2']
def stopB : List Nat → List Nat → Bool
  | [],_ => false
  | _ :: _,[] => true
  | a :: x,b :: y => if a = b then stopB x y else true
theorem cmpL_pre : ∀ (a b : List Nat),stopB a b = false → cmpL a b = if a.length < b.length then -1 else 0
  | [],[],_ => rfl
  | [],_ :: _,_ => rfl
  | a :: x,[],h => by cases h
  | a :: x,b :: y,h => by
    rw [stopB] at h
    split at h
    · rename_i e
      subst e
      rw [cmpL,if_neg (by omega),if_neg (by omega),cmpL_pre x y h]
      simp
    · cases h
theorem comp_loop (nl ex nl' ex' : Bool) (sz sz' : Nat) (a b : List Nat) (ha : a.length < 1000) (hb : b.length < 1000) (j : Nat) : ∀ k,k + j = a.length →
    exF LP slices_Compare_int_int.L0 [(0,IL nl ex sz (ci a)),(1,IL nl' ex' sz' (ci b)),(9,IL nl ex sz (ci a)),(10,.int .i64 (a.length : Int)),(11,.int .i64 (k : Int))] [] =
      if stopB (a.drop k) (b.drop k) = true then some (.ret,[(4,.int .i64 (cmpL (a.drop k) (b.drop k)))],[]) else some (.exit 0,[(0,IL nl ex sz (ci a)),(1,IL nl' ex' sz' (ci b))],[]) := by
  have hca := ci_len a
  have hcb := ci_len b
  induction j with
  | zero =>
    intro k hk
    rw [slices_Compare_int_int.L0_eq,List.drop_eq_nil_of_le (show a.length ≤ k by omega),stopB,if_neg (by simp)]
    simp only [IL,hca,hcb]
    generalize (ci a).map (LV.int .i64) = rowa at *
    generalize (ci b).map (LV.int .i64) = rowb at *
    simp only [slices_Compare_int_int.B0,exF_seq,exF_region,exF_cond,exF_exit,runL,wantL,stepL,evL,LEnv.at,putL,loadFine,LEnv.keep,List.map_cons,List.map_nil,nbeq,bin_lss,Nat.reduceEqDiff,decide_true,decide_false,cond_true,cond_false,reduceCtorEq,eq_self,show ¬ ((k : Int) < (a.length : Int)) by omega]
  | succ j ih =>
    intro k hk
    have h2 : k < a.length := by omega
    have hkk : (k : Int) < (a.length : Int) := by omega
    have hw := wrap_succ (show k + 1 < 9223372036854775808 by omega)
    have ih := ih (k + 1) (by omega)
    have hata : (ci a).map (LV.int .i64) = a.map fun y : Nat => LV.int .i64 (y : Int) := by simp
    have hatb : (ci b).map (LV.int .i64) = b.map fun y : Nat => LV.int .i64 (y : Int) := by simp
    have b0 := nat_at .i64 a k h2
    rw [← hata] at b0
    by_cases c : b.length ≤ k
    · have c' : (b.length : Int) ≤ (k : Int) := by omega
      rw [slices_Compare_int_int.L0_eq,List.drop_eq_nil_of_le c,List.drop_eq_getElem_cons h2,cmpL,stopB,if_pos rfl]
      simp only [IL,hca,hcb]
      generalize (ci a).map (LV.int .i64) = rowa at *
      generalize (ci b).map (LV.int .i64) = rowb at *
      simp only [slices_Compare_int_int.B0,exF_seq,exF_region,exF_block,exF_cond,exF_ret,exF_skip,runL,wantL,stepL,evL,evC,LEnv.at,putL,loadFine,loadL,cellsAt,Trk.putNew,Trk.up,Trk.touch,Trk.gives,Trk.calm,opdsOf,Trk.fresh,LEnv.keep,List.map_cons,List.map_nil,nbeq,nble,nblt,lenL,bin_lss,bin_geq,natL_nat,List.any_cons,List.any_nil,Bool.or_false,Bool.or_true,Bool.and_true,Bool.false_and,Bool.not_true,Bool.not_false,Nat.reduceEqDiff,decide_true,decide_false,cond_true,cond_false,List.filter_nil,Nat.reduceAdd,Nat.reduceLeDiff,reduceCtorEq,List.length_nil,Nat.mul_one,eq_self,hkk,h2,b0,c']
    · have c' : ¬ (b.length : Int) ≤ (k : Int) := by omega
      have h3 : k < b.length := by omega
      have b1 := nat_at .i64 b k h3
      rw [← hatb] at b1
      have hcm := fun m => cmpI_c a[k] b[k] m
      rw [List.drop_eq_getElem_cons h2,List.drop_eq_getElem_cons h3,cmpL,stopB]
      by_cases d : a[k] = b[k]
      · have d1 : ¬ a[k] < b[k] := by omega
        have d2 : ¬ b[k] < a[k] := by omega
        rw [if_pos d,if_neg d1,if_neg d2]
        simp only [if_neg d1,if_neg d2] at hcm
        rw [← ih,slices_Compare_int_int.L0_eq]
        simp only [IL,hca,hcb]
        generalize (ci a).map (LV.int .i64) = rowa at *
        generalize (ci b).map (LV.int .i64) = rowb at *
        simp only [slices_Compare_int_int.B0,exF_seq,exF_region,exF_block,exF_cond,exF_skip,runL,wantL,stepL,evL,evC,LEnv.at,putL,loadFine,loadL,cellsAt,Trk.putNew,Trk.up,Trk.touch,Trk.gives,Trk.calm,opdsOf,Trk.fresh,LEnv.keep,List.map_cons,List.map_nil,nbeq,nble,nblt,ofAVs,lenL,bin_add,bin_neq,bin_lss,bin_geq,natL_nat,List.any_cons,List.any_nil,Bool.or_false,Bool.or_true,Bool.and_true,Bool.false_and,Bool.not_true,Bool.not_false,Nat.reduceEqDiff,decide_true,decide_false,cond_true,cond_false,List.filter_nil,Nat.reduceAdd,Nat.reduceLeDiff,reduceCtorEq,List.length_nil,Nat.mul_one,eq_self,List.append_nil,List.nil_append,not_true_eq_false,ne_eq,hkk,h2,h3,b0,b1,c',hcm,hw]
      · rw [if_neg d,if_pos rfl,slices_Compare_int_int.L0_eq]
        simp only [IL,hca,hcb]
        generalize (ci a).map (LV.int .i64) = rowa at *
        generalize (ci b).map (LV.int .i64) = rowb at *
        by_cases d1 : a[k] < b[k]
        · simp only [if_pos d1] at hcm ⊢
          simp only [slices_Compare_int_int.B0,exF_seq,exF_region,exF_block,exF_cond,exF_ret,exF_skip,runL,wantL,stepL,evL,evC,LEnv.at,putL,loadFine,loadL,cellsAt,Trk.putNew,Trk.up,Trk.touch,Trk.gives,Trk.calm,opdsOf,Trk.fresh,LEnv.keep,List.map_cons,List.map_nil,nbeq,nble,nblt,ofAVs,lenL,bin_neq,bin_lss,bin_geq,natL_nat,List.any_cons,List.any_nil,Bool.or_false,Bool.or_true,Bool.and_true,Bool.false_and,Bool.not_true,Bool.not_false,Nat.reduceEqDiff,decide_true,decide_false,cond_true,cond_false,List.filter_nil,Nat.reduceAdd,Nat.reduceLeDiff,reduceCtorEq,List.length_nil,Nat.mul_one,eq_self,List.append_nil,List.nil_append,not_false_eq_true,ne_eq,hkk,h2,h3,b0,b1,c',hcm]
        · have d2 : b[k] < a[k] := by omega
          simp only [if_neg d1,if_pos d2] at hcm ⊢
          simp only [slices_Compare_int_int.B0,exF_seq,exF_region,exF_block,exF_cond,exF_ret,exF_skip,runL,wantL,stepL,evL,evC,LEnv.at,putL,loadFine,loadL,cellsAt,Trk.putNew,Trk.up,Trk.touch,Trk.gives,Trk.calm,opdsOf,Trk.fresh,LEnv.keep,List.map_cons,List.map_nil,nbeq,nble,nblt,ofAVs,lenL,bin_neq,bin_lss,bin_geq,natL_nat,List.any_cons,List.any_nil,Bool.or_false,Bool.or_true,Bool.and_true,Bool.false_and,Bool.not_true,Bool.not_false,Nat.reduceEqDiff,decide_true,decide_false,cond_true,cond_false,List.filter_nil,Nat.reduceAdd,Nat.reduceLeDiff,reduceCtorEq,List.length_nil,Nat.mul_one,eq_self,List.append_nil,List.nil_append,not_false_eq_true,ne_eq,Int.reduceEq,hkk,h2,h3,b0,b1,c',hcm]
theorem compare_c (nl ex nl' ex' : Bool) (sz sz' : Nat) (a b : List Nat) (ha : a.length < 1000) (hb : b.length < 1000) (m : LMem) : clF LP n_slices_Compare_int_int [IL nl ex sz (ci a),IL nl' ex' sz' (ci b)] m = some (.P,.int .i64 (cmpL a b),m) := by
  have h := comp_loop nl ex nl' ex' sz sz' a b ha hb a.length 0 (by omega)
  have hca := ci_len a
  have hcb := ci_len b
  rw [List.drop_zero,List.drop_zero] at h
  simp only [Int.natCast_zero] at h
  refine call_P lp_slices_Compare_int_int rfl (by simp [LV.pures,LV.pure]) (m1 := []) ?_ rfl m
  simp only [IL,hca,hcb] at h ⊢
  generalize (ci a).map (LV.int .i64) = rowa at *
  generalize (ci b).map (LV.int .i64) = rowb at *
  by_cases c : stopB a b = true
  · rw [if_pos c] at h
    simp only [slices_Compare_int_int,slices_Compare_int_int.B,exF_seq,exF_region,exF_block,runL,wantL,stepL,evL,evC,LEnv.at,putL,loadFine,LEnv.keep,LEnv.ofFrom,List.map_cons,List.map_nil,nbeq,lenL,Nat.reduceEqDiff,decide_true,decide_false,cond_true,cond_false,Nat.reduceAdd,reduceCtorEq,eq_self,retL,resultsL,resAllL,resOfL,h]
  · rw [if_neg c] at h
    have hp := cmpL_pre a b (by simpa using c)
    rw [hp]
    by_cases d : a.length < b.length
    · have d' : (a.length : Int) < (b.length : Int) := by omega
      rw [if_pos d]
      simp only [slices_Compare_int_int,slices_Compare_int_int.B,exF_seq,exF_region,exF_block,exF_cond,exF_ret,runL,wantL,stepL,evL,evC,LEnv.at,putL,loadFine,LEnv.keep,LEnv.ofFrom,List.map_cons,List.map_nil,nbeq,lenL,bin_lss,Nat.reduceEqDiff,decide_true,decide_false,cond_true,cond_false,Nat.reduceAdd,reduceCtorEq,eq_self,retL,resultsL,resAllL,resOfL,h,d']
    · have d' : ¬ (a.length : Int) < (b.length : Int) := by omega
      rw [if_neg d]
      simp only [slices_Compare_int_int,slices_Compare_int_int.B,exF_seq,exF_region,exF_block,exF_cond,exF_ret,exF_skip,runL,wantL,stepL,evL,evC,LEnv.at,putL,loadFine,LEnv.keep,LEnv.ofFrom,List.map_cons,List.map_nil,nbeq,lenL,bin_lss,Nat.reduceEqDiff,decide_true,decide_false,cond_true,cond_false,Nat.reduceAdd,reduceCtorEq,eq_self,retL,resultsL,resAllL,resOfL,h,d']
end Go.Am.Ring
