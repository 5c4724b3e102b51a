/-
  What functions of chapter 04 compute, 1: checks; lists that are the same.
-/
import Derived.Test.YtheppipmnfjdcaaDoorRdL
import Derived.Test.YtheppipmnfjdcaaDoorLm14
set_option linter.unusedVariables false
set_option linter.unusedSimpArgs false
set_option maxRecDepth 10000
namespace Go.Am.Ring
open Go.Am.G
def pc (p : Int × Int) : List LV := [.int .i64 p.1,.int .i64 p.2]
def pcI (l : List (Int × Int)) : List LV := l.flatMap pc
theorem pc_len (p : Int × Int) : (pc p).length = 2 := rfl
theorem pcI_len (l : List (Int × Int)) : (pcI l).length = l.length * 2 := flat_length pc 2 pc_len l
theorem pcI_pures (l : List (Int × Int)) : LV.pures (pcI l) = true := flat_pures pc (fun _ => rfl) l
theorem pcI_seg (l : List (Int × Int)) (i : Nat) (h : i < l.length) : ((pcI l).drop (i * 2)).take 2 = [.int .i64 l[i].1,.int .i64 l[i].2] := flat_seg pc 2 pc_len l i h
theorem pcI_0 (l : List (Int × Int)) (i : Nat) (h : i < l.length) : (pcI l)[i * 2]? = some (.int .i64 l[i].1) := flat_at pc 2 pc_len l i h 0 (by omega)
theorem pcI_1 (l : List (Int × Int)) (i : Nat) (h : i < l.length) : (pcI l)[i * 2 + 1]? = some (.int .i64 l[i].2) := flat_at pc 2 pc_len l i h 1 (by omega)
theorem pcI_ok (l : List (Int × Int)) (i : Nat) (h : i < l.length) : i * 2 + 2 ≤ (pcI l).length := by rw [pcI_len]; omega
abbrev FL (nl ex : Bool) (sz : Nat) (l : List (Int × Int)) : LV := .lst nl ex sz l.length (pcI l)
theorem trim0 (vs : List LV) (m : LMem) : trim 0 vs m = cond (LV.unders 0 vs) [] m := by
  unfold trim; simp [belowM]
def inB (lo hi x : Int) : Bool := decide (lo ≤ x ∧ x ≤ hi)
theorem between_c (lo n hi : Int) (m : LMem) : clF LP n_ring_between [.int .i64 lo,.int .i64 n,.int .i64 hi] m = some (.P,.bool (inB lo hi n),m) := by
  refine call_P lp_ring_between rfl rfl (m1 := []) ?_ rfl m
  by_cases h : lo ≤ n
  · simp only [ring_between,ring_between.B,beqT,exF_seq,exF_region,exF_ret,runL,wantL,stepL,evL,evC,LEnv.at,putL,loadFine,LEnv.keep,LEnv.ofFrom,List.map_cons,List.map_nil,nbeq,bin_leq,Nat.reduceEqDiff,decide_true,decide_false,cond_true,cond_false,Nat.reduceAdd,reduceCtorEq,eq_self,true_and,retL,resultsL,resAllL,resOfL,h,inB]
  · simp only [ring_between,ring_between.B,beqT,exF_seq,exF_region,exF_ret,runL,wantL,stepL,evL,evC,LEnv.at,putL,loadFine,LEnv.keep,LEnv.ofFrom,List.map_cons,List.map_nil,nbeq,bin_leq,Nat.reduceEqDiff,decide_true,decide_false,cond_true,cond_false,Nat.reduceAdd,reduceCtorEq,eq_self,retL,resultsL,resAllL,resOfL,false_and,h,inB]
def chkP (n : Int) : List (Int × Int) → Int
  | [] => 0
  | p :: r => if 0 ≤ p.1 ∧ p.1 < n ∧ 0 ≤ p.2 ∧ p.2 < n then (if p.1 = p.2 then 13 else chkP n r) else 2
def chkF (n : Int) (l : List (Int × Int)) : Int := if 1 ≤ n ∧ n ≤ 6 then (if l.length ≤ 12 then chkP n l else 3) else 1
theorem check_loop (nl ex : Bool) (sz : Nat) (l : List (Int × Int)) (N : Int) (hN : 1 ≤ N ∧ N ≤ 6) (hl : l.length ≤ 12) (n : Nat) : ∀ k,k + n = l.length →
    ∃ M,exF LP ring_Check.L0 [(0,.int .i64 N),(15,FL nl ex sz l),(16,.int .i64 (l.length : Int)),(17,.int .i64 (k : Int))] [] =
      if chkP N (l.drop k) = 0 then some (.exit 1,[],[]) else some (.ret,[(4,.int .i64 (chkP N (l.drop k)))],M) := by
  have hw : IntKind.i64.wrap (N - 1) = N - 1 := wrap_in (by omega)
  induction n with
  | zero =>
    intro k hk
    rw [ring_Check.L0_eq]
    refine ⟨[],?_⟩
    simp only [ring_Check.B0,exF_seq,exF_region,exF_cond,exF_exit,runL,wantL,stepL,evL,LEnv.at,putL,loadFine,LEnv.keep,List.map_cons,List.map_nil,nbeq,bin_lss,Nat.reduceEqDiff,decide_true,decide_false,cond_true,cond_false,reduceCtorEq,eq_self,show ¬ ((k : Int) < (l.length : Int)) by omega]
    simp [List.drop_eq_nil_of_le (show l.length ≤ k by omega),chkP]
  | succ n ih =>
    intro k hk
    have h2 : k < l.length := by omega
    have h3 := pcI_ok l k h2
    have h4 := pcI_seg l k h2
    have ih := ih (k + 1) (by omega)
    rw [ring_Check.L0_eq,List.drop_eq_getElem_cons h2,chkP]
    generalize l[k] = p at *
    obtain ⟨a,b⟩ := p
    have hmn : inB 0 (N - 1) (if b < a then b else a) = decide (0 ≤ a ∧ 0 ≤ b ∧ (a < N ∨ b < N)) := by
      simp only [inB]
      split
      · rw [decide_eq_decide]; omega
      · rw [decide_eq_decide]; omega
    have hmx : decide ((if b > a then b else a) ≥ N) = decide (N ≤ a ∨ N ≤ b) := by
      split
      · rw [decide_eq_decide]; omega
      · rw [decide_eq_decide]; omega
    simp only [gt_iff_lt,ge_iff_le] at hmx
    by_cases c1 : 0 ≤ a ∧ a < N ∧ 0 ≤ b ∧ b < N
    · have d1 : decide (0 ≤ a ∧ 0 ≤ b ∧ (a < N ∨ b < N)) = true := by rw [decide_eq_true_eq]; omega
      have d2 : decide (N ≤ a ∨ N ≤ b) = false := by rw [decide_eq_false_iff_not]; omega
      rw [d1] at hmn; rw [d2] at hmx
      rw [if_pos c1]
      by_cases c2 : a = b
      · subst c2
        refine ⟨[⟨[.int .i64 a,.int .i64 a],true⟩],?_⟩
        simp only [ring_Check.B0,beqF,exF_seq,exF_region,exF_block,exF_cond,exF_ret,exF_skip,runL,wantL,stepL,evL,evC,LEnv.at,putL,loadFine,loadL,cellsAt,Trk.putNew,Trk.up,Trk.touch,Trk.gives,Trk.calm,Trk.hit,opdsOf,Trk.fresh,LEnv.keep,List.map_cons,List.map_nil,nbeq,nble,nblt,ofAV,ofAVs,bin_sub,bin_eql,bin_lss,bin_geq,natL_nat,natL_zero,natL_one,List.any_cons,List.any_nil,Bool.or_false,Bool.or_true,Bool.and_true,Bool.false_and,Bool.not_true,Bool.not_false,Nat.reduceEqDiff,decide_true,decide_false,cond_true,cond_false,List.filter_nil,List.filter_cons,Nat.reduceAdd,Nat.reduceLeDiff,reduceCtorEq,List.length_nil,List.length_cons,Nat.mul_one,if_true,if_false,eq_self,List.append_nil,List.nil_append,unL,Int.reduceEq,LV.cells,allocL,List.getElem?_cons_zero,List.getElem?_cons_succ,storeL,spliceL,List.take_zero,List.take_succ_cons,List.drop_zero,List.drop_succ_cons,List.drop_nil,List.take_nil,Nat.le_refl,List.set_cons_zero,LV.scalar,List.all_cons,List.all_nil,Nat.lt_add_one,Nat.reduceLT,foldIntL,kind_beq,show ((k : Int) < (l.length : Int)) by omega,h2,h3,h4,between_c,hw,hmn,hmx]
      · obtain ⟨M,ih⟩ := ih
        refine ⟨M,?_⟩
        simp only [ring_Check.B0,beqF,exF_seq,exF_region,exF_block,exF_cond,exF_skip,runL,wantL,stepL,evL,evC,LEnv.at,putL,loadFine,loadL,cellsAt,Trk.putNew,Trk.up,Trk.touch,Trk.gives,Trk.calm,Trk.hit,opdsOf,Trk.fresh,LEnv.keep,List.map_cons,List.map_nil,nbeq,nble,nblt,ofAV,ofAVs,bin_add,bin_sub,bin_eql,bin_lss,bin_geq,natL_nat,natL_zero,natL_one,List.any_cons,List.any_nil,Bool.or_false,Bool.or_true,Bool.and_true,Bool.false_and,Bool.not_true,Bool.not_false,Nat.reduceEqDiff,decide_true,decide_false,cond_true,cond_false,List.filter_nil,List.filter_cons,Nat.reduceAdd,Nat.reduceLeDiff,reduceCtorEq,List.length_nil,List.length_cons,Nat.mul_one,if_true,if_false,eq_self,List.append_nil,List.nil_append,unL,LV.cells,allocL,List.getElem?_cons_zero,List.getElem?_cons_succ,storeL,spliceL,List.take_zero,List.take_succ_cons,List.drop_zero,List.drop_succ_cons,List.drop_nil,List.take_nil,Nat.le_refl,List.set_cons_zero,LV.scalar,List.all_cons,List.all_nil,Nat.lt_add_one,Nat.reduceLT,foldIntL,kind_beq,trim0,envVals,LV.unders,LV.under,show ((k : Int) < (l.length : Int)) by omega,h2,h3,h4,between_c,hw,hmn,hmx,c2,wrap_succ (show k + 1 < 9223372036854775808 by omega),ih]
    · rw [if_neg c1]
      cases d1 : decide (0 ≤ a ∧ 0 ≤ b ∧ (a < N ∨ b < N))
      · rw [d1] at hmn
        refine ⟨[⟨[.int .i64 a,.int .i64 b],true⟩],?_⟩
        simp only [ring_Check.B0,beqF,exF_seq,exF_region,exF_block,exF_cond,exF_ret,exF_skip,runL,wantL,stepL,evL,evC,LEnv.at,putL,loadFine,loadL,cellsAt,Trk.putNew,Trk.up,Trk.touch,Trk.gives,Trk.calm,Trk.hit,opdsOf,Trk.fresh,LEnv.keep,List.map_cons,List.map_nil,nbeq,nble,nblt,ofAV,ofAVs,bin_sub,bin_lss,natL_nat,natL_zero,natL_one,List.any_cons,List.any_nil,Bool.or_false,Bool.or_true,Bool.and_true,Bool.false_and,Bool.not_true,Bool.not_false,Nat.reduceEqDiff,decide_true,decide_false,cond_true,cond_false,List.filter_nil,Nat.reduceAdd,Nat.reduceLeDiff,reduceCtorEq,List.length_nil,List.length_cons,Nat.mul_one,if_false,eq_self,List.append_nil,List.nil_append,unL,Int.reduceEq,LV.cells,allocL,List.getElem?_cons_zero,List.getElem?_cons_succ,storeL,spliceL,List.take_zero,List.take_succ_cons,List.drop_zero,List.drop_succ_cons,List.drop_nil,List.take_nil,Nat.le_refl,List.set_cons_zero,LV.scalar,List.all_cons,List.all_nil,Nat.lt_add_one,Nat.reduceLT,foldIntL,kind_beq,show ((k : Int) < (l.length : Int)) by omega,h2,h3,h4,between_c,hw,hmn]
      · have d2 : decide (N ≤ a ∨ N ≤ b) = true := by rw [decide_eq_true_eq] at d1 ⊢; omega
        rw [d1] at hmn; rw [d2] at hmx
        refine ⟨[⟨[.int .i64 a,.int .i64 b],true⟩],?_⟩
        simp only [ring_Check.B0,beqF,exF_seq,exF_region,exF_block,exF_cond,exF_ret,exF_skip,runL,wantL,stepL,evL,evC,LEnv.at,putL,loadFine,loadL,cellsAt,Trk.putNew,Trk.up,Trk.touch,Trk.gives,Trk.calm,Trk.hit,opdsOf,Trk.fresh,LEnv.keep,List.map_cons,List.map_nil,nbeq,nble,nblt,ofAV,ofAVs,bin_sub,bin_lss,bin_geq,natL_nat,natL_zero,natL_one,List.any_cons,List.any_nil,Bool.or_false,Bool.or_true,Bool.and_true,Bool.false_and,Bool.not_true,Bool.not_false,Nat.reduceEqDiff,decide_true,decide_false,cond_true,cond_false,List.filter_nil,List.filter_cons,Nat.reduceAdd,Nat.reduceLeDiff,reduceCtorEq,List.length_nil,List.length_cons,Nat.mul_one,if_true,if_false,eq_self,List.append_nil,List.nil_append,unL,Int.reduceEq,LV.cells,allocL,List.getElem?_cons_zero,List.getElem?_cons_succ,storeL,spliceL,List.take_zero,List.take_succ_cons,List.drop_zero,List.drop_succ_cons,List.drop_nil,List.take_nil,Nat.le_refl,List.set_cons_zero,LV.scalar,List.all_cons,List.all_nil,Nat.lt_add_one,Nat.reduceLT,foldIntL,kind_beq,show ((k : Int) < (l.length : Int)) by omega,h2,h3,h4,between_c,hw,hmn,hmx]
        try rfl
theorem check_c (nl ex : Bool) (sz : Nat) (N : Int) (l : List (Int × Int)) (hl : l.length < 1000000) (m : LMem) : clF LP n_ring_Check [.int .i64 N,FL nl ex sz l] m = some (.P,.int .i64 (chkF N l),m) := by
  unfold chkF
  by_cases hN : 1 ≤ N ∧ N ≤ 6
  · have e1 : inB 1 6 N = true := by simp [inB,hN]
    rw [if_pos hN]
    by_cases h12 : l.length ≤ 12
    · rw [if_pos h12]
      obtain ⟨M,h⟩ := check_loop nl ex sz l N hN h12 l.length 0 (by omega)
      simp only [Int.natCast_zero,List.drop_zero] at h
      refine call_P lp_ring_Check rfl (by simp [LV.pures,LV.pure]) (m1 := if chkP N l = 0 then [] else M) ?_ rfl m
      split at h
      · rename_i h0
        simp only [ring_Check,ring_Check.B,exF_seq,exF_region,exF_block,exF_cond,exF_ret,exF_skip,runL,wantL,stepL,evL,evC,LEnv.at,putL,loadFine,LEnv.keep,LEnv.ofFrom,List.map_cons,List.map_nil,nbeq,ofAVs,lenL,bin_gtr,Bool.not_true,Nat.reduceEqDiff,decide_true,decide_false,cond_true,cond_false,Nat.reduceAdd,reduceCtorEq,if_true,eq_self,retL,resultsL,resAllL,resOfL,List.append_nil,List.nil_append,unL,between_c,e1,show ¬ ((12 : Int) < (l.length : Int)) by omega,h,h0]
      · rename_i h0
        simp only [ring_Check,ring_Check.B,exF_seq,exF_region,exF_block,exF_cond,exF_skip,runL,wantL,stepL,evL,evC,LEnv.at,putL,loadFine,LEnv.keep,LEnv.ofFrom,List.map_cons,List.map_nil,nbeq,ofAVs,lenL,bin_gtr,Bool.not_true,Nat.reduceEqDiff,decide_true,decide_false,cond_true,cond_false,Nat.reduceAdd,reduceCtorEq,if_false,eq_self,retL,resultsL,resAllL,resOfL,List.append_nil,List.nil_append,unL,between_c,e1,show ¬ ((12 : Int) < (l.length : Int)) by omega,h,h0]
    · rw [if_neg h12]
      refine call_P lp_ring_Check rfl (by simp [LV.pures,LV.pure]) (m1 := []) ?_ rfl m
      simp only [ring_Check,ring_Check.B,exF_seq,exF_region,exF_block,exF_cond,exF_ret,runL,wantL,stepL,evL,evC,LEnv.at,putL,loadFine,LEnv.keep,LEnv.ofFrom,List.map_cons,List.map_nil,nbeq,ofAVs,lenL,bin_gtr,Bool.not_true,Nat.reduceEqDiff,decide_true,decide_false,cond_true,cond_false,Nat.reduceAdd,reduceCtorEq,eq_self,retL,resultsL,resAllL,resOfL,List.append_nil,List.nil_append,unL,between_c,e1,show ((12 : Int) < (l.length : Int)) by omega]
  · have e1 : inB 1 6 N = false := by simp only [inB]; rw [decide_eq_false_iff_not]; exact hN
    rw [if_neg hN]
    refine call_P lp_ring_Check rfl (by simp [LV.pures,LV.pure]) (m1 := []) ?_ rfl m
    simp only [ring_Check,ring_Check.B,exF_seq,exF_region,exF_block,exF_cond,exF_ret,runL,wantL,stepL,evL,evC,LEnv.at,putL,loadFine,LEnv.keep,LEnv.ofFrom,List.map_cons,List.map_nil,nbeq,ofAVs,Bool.not_false,Nat.reduceEqDiff,decide_true,decide_false,cond_true,cond_false,Nat.reduceAdd,reduceCtorEq,eq_self,retL,resultsL,resAllL,resOfL,List.append_nil,List.nil_append,unL,between_c,e1]
theorem take_snoc {α : Type} (a : List α) (k : Nat) (h : k < a.length) : a.take (k + 1) = a.take k ++ [a[k]] := by rw [List.take_add_one,List.getElem?_eq_getElem h]; rfl
theorem same_loop (nl ex nl' ex' : Bool) (sz sz' : Nat) (a b : List Int) (hl : a.length = b.length) (hs : a.length < 1000000) (n : Nat) : ∀ k,k + n = a.length → a.take k = b.take k →
    exF LP law04_same.L0 [(0,IL nl ex sz a),(1,IL nl' ex' sz' b),(5,.int .i64 (k : Int))] [] = if a = b then some (.exit 0,[],[]) else some (.ret,[(4,.bool false)],[]) := by
  induction n with
  | zero =>
    intro k hk ht
    have e : a = b := by rw [List.take_of_length_le (by omega),List.take_of_length_le (by omega)] at ht; exact ht
    rw [law04_same.L0_eq,if_pos e]
    simp only [law04_same.B0,law04_same.B0.R0,exF_seq,exF_region,exF_cond,exF_exit,runL,wantL,stepL,evL,LEnv.at,putL,loadFine,LEnv.keep,List.map_cons,List.map_nil,nbeq,lenL,bin_lss,Nat.reduceEqDiff,decide_true,decide_false,cond_true,cond_false,reduceCtorEq,eq_self,show ¬ ((k : Int) < (a.length : Int)) by omega]
  | succ n ih =>
    intro k hk ht
    have h2 : k < a.length := by omega
    have h3 : k < b.length := by omega
    rw [law04_same.L0_eq]
    by_cases c : a[k] = b[k]
    · have ih := ih (k + 1) (by omega) (by rw [take_snoc a k h2,take_snoc b k h3,ht,c])
      simp only [law04_same.B0,law04_same.B0.R0,exF_seq,exF_region,exF_block,exF_cond,exF_skip,runL,wantL,stepL,evL,evC,LEnv.at,putL,loadFine,loadL,cellsAt,Trk.putNew,Trk.up,Trk.touch,Trk.gives,Trk.calm,opdsOf,Trk.fresh,LEnv.keep,List.map_cons,List.map_nil,nbeq,nble,nblt,lenL,bin_add,bin_neq,bin_lss,natL_nat,List.any_cons,List.any_nil,Bool.or_false,Bool.or_true,Bool.and_true,Bool.false_and,Bool.not_true,Bool.not_false,Nat.reduceEqDiff,decide_true,decide_false,cond_true,cond_false,List.filter_nil,Nat.reduceAdd,reduceCtorEq,List.length_nil,Nat.mul_one,eq_self,not_true_eq_false,ne_eq,Nat.le_refl,show ((k : Int) < (a.length : Int)) by omega,h2,h3,int_at _ _ _ h2,int_at _ _ _ h3,c,wrap_succ (show k + 1 < 9223372036854775808 by omega),ih]
    · have e : ¬ a = b := by rintro rfl; exact c rfl
      rw [if_neg e]
      simp only [law04_same.B0,law04_same.B0.R0,exF_seq,exF_region,exF_block,exF_cond,exF_ret,exF_skip,runL,wantL,stepL,evL,evC,LEnv.at,putL,loadFine,loadL,cellsAt,Trk.putNew,Trk.up,Trk.touch,Trk.gives,Trk.calm,opdsOf,Trk.fresh,LEnv.keep,List.map_cons,List.map_nil,nbeq,nble,nblt,lenL,bin_neq,bin_lss,natL_nat,List.any_cons,List.any_nil,Bool.or_false,Bool.or_true,Bool.and_true,Bool.false_and,Bool.not_true,Bool.not_false,Nat.reduceEqDiff,decide_true,decide_false,cond_true,cond_false,List.filter_nil,Nat.reduceAdd,reduceCtorEq,List.length_nil,Nat.mul_one,eq_self,not_false_eq_true,ne_eq,Nat.le_refl,show ((k : Int) < (a.length : Int)) by omega,h2,h3,int_at _ _ _ h2,int_at _ _ _ h3,c]
theorem same_c (nl ex nl' ex' : Bool) (sz sz' : Nat) (a b : List Int) (ha : a.length < 1000000) (hb : b.length < 1000000) (m : LMem) : clF LP n_law04_same [IL nl ex sz a,IL nl' ex' sz' b] m = some (.P,.bool (decide (a = b)),m) := by
  refine call_P lp_law04_same rfl (by simp [LV.pures,LV.pure]) (m1 := []) ?_ rfl m
  by_cases hl : a.length = b.length
  · have h := same_loop nl ex nl' ex' sz sz' a b hl ha a.length 0 (by omega) rfl
    simp only [Int.natCast_zero] at h
    by_cases e : a = b
    · rw [if_pos e] at h
      rw [decide_eq_true e]
      simp only [law04_same,law04_same.B,exF_seq,exF_region,exF_block,exF_cond,exF_ret,exF_skip,runL,wantL,stepL,evL,evC,LEnv.at,putL,loadFine,LEnv.keep,LEnv.ofFrom,List.map_cons,List.map_nil,nbeq,lenL,bin_neq,Nat.reduceEqDiff,decide_true,decide_false,cond_true,cond_false,Nat.reduceAdd,reduceCtorEq,eq_self,retL,resultsL,resAllL,resOfL,not_true_eq_false,ne_eq,hl] at h ⊢
      simp only [LEnv.at,nbeq,decide_true,cond_true,eq_self,h]
    · rw [if_neg e] at h
      rw [decide_eq_false e]
      simp only [law04_same,law04_same.B,exF_seq,exF_region,exF_block,exF_cond,exF_ret,exF_skip,runL,wantL,stepL,evL,evC,LEnv.at,putL,loadFine,LEnv.keep,LEnv.ofFrom,List.map_cons,List.map_nil,nbeq,lenL,bin_neq,Nat.reduceEqDiff,decide_true,decide_false,cond_true,cond_false,Nat.reduceAdd,reduceCtorEq,eq_self,retL,resultsL,resAllL,resOfL,not_true_eq_false,ne_eq,hl] at h ⊢
      simp only [LEnv.at,nbeq,decide_true,cond_true,eq_self,h]
  · have e : ¬ a = b := fun c => hl (congrArg List.length c)
    have hl' : ¬ ((a.length : Int) = (b.length : Int)) := by omega
    rw [decide_eq_false e]
    simp only [law04_same,law04_same.B,exF_seq,exF_region,exF_cond,exF_ret,runL,wantL,stepL,evL,evC,LEnv.at,putL,loadFine,LEnv.keep,LEnv.ofFrom,List.map_cons,List.map_nil,nbeq,lenL,bin_neq,Nat.reduceEqDiff,decide_true,decide_false,cond_true,cond_false,Nat.reduceAdd,reduceCtorEq,eq_self,retL,resultsL,resAllL,resOfL,not_false_eq_true,ne_eq,hl']
theorem eq2 (a b : Int × Int) : eqIntsL [.int .i64 a.1,.int .i64 a.2] [.int .i64 b.1,.int .i64 b.2] = some (decide (a = b)) := by
  obtain ⟨a1,a2⟩ := a
  obtain ⟨b1,b2⟩ := b
  simp [eqIntsL]
  by_cases c : a1 = b1
  · subst c
    by_cases d : a2 = b2
    · subst d; simp
    · simp [d]
  · simp [c]
theorem pairs_loop (nl ex nl' ex' : Bool) (sz sz' : Nat) (a b : List (Int × Int)) (hl : a.length = b.length) (hs : a.length < 1000000) (n : Nat) : ∀ k,k + n = a.length → a.take k = b.take k →
    exF LP law04_pairs.L0 [(0,FL nl ex sz a),(1,FL nl' ex' sz' b),(5,.int .i64 (k : Int))] [] = if a = b then some (.exit 0,[],[]) else some (.ret,[(4,.bool false)],[]) := by
  induction n with
  | zero =>
    intro k hk ht
    have e : a = b := by rw [List.take_of_length_le (by omega),List.take_of_length_le (by omega)] at ht; exact ht
    rw [law04_pairs.L0_eq,if_pos e]
    simp only [law04_pairs.B0,exF_seq,exF_region,exF_cond,exF_exit,runL,wantL,stepL,evL,LEnv.at,putL,loadFine,LEnv.keep,List.map_cons,List.map_nil,nbeq,lenL,bin_lss,Nat.reduceEqDiff,decide_true,decide_false,cond_true,cond_false,reduceCtorEq,eq_self,show ¬ ((k : Int) < (a.length : Int)) by omega]
  | succ n ih =>
    intro k hk ht
    have h2 : k < a.length := by omega
    have h3 : k < b.length := by omega
    have s1 := pcI_seg a k h2
    have s2 := pcI_seg b k h3
    have o1 := pcI_ok a k h2
    have o2 := pcI_ok b k h3
    rw [law04_pairs.L0_eq]
    by_cases c : a[k] = b[k]
    · have ih := ih (k + 1) (by omega) (by rw [take_snoc a k h2,take_snoc b k h3,ht,c])
      rw [c] at s1
      simp only [law04_pairs.B0,law04_pairs.B0.R0,exF_seq,exF_region,exF_block,exF_cond,exF_skip,runL,wantL,stepL,evL,evC,LEnv.at,putL,loadFine,loadL,cellsAt,Trk.putNew,Trk.up,Trk.touch,Trk.gives,Trk.calm,opdsOf,Trk.fresh,LEnv.keep,List.map_cons,List.map_nil,nbeq,nble,nblt,lenL,bin_add,bin_lss,natL_nat,List.any_cons,List.any_nil,Bool.or_false,Bool.or_true,Bool.and_true,Bool.false_and,Bool.not_true,Bool.not_false,Nat.reduceEqDiff,decide_true,decide_false,cond_true,cond_false,List.filter_nil,Nat.reduceAdd,reduceCtorEq,List.length_nil,List.length_cons,eq_self,Nat.le_refl,show ((k : Int) < (a.length : Int)) by omega,h2,h3,s1,s2,o1,o2,eq2,Bool.xor_true,wrap_succ (show k + 1 < 9223372036854775808 by omega),ih]
    · have e : ¬ a = b := by rintro rfl; exact c rfl
      rw [if_neg e]
      simp only [law04_pairs.B0,law04_pairs.B0.R0,exF_seq,exF_region,exF_block,exF_cond,exF_ret,exF_skip,runL,wantL,stepL,evL,evC,LEnv.at,putL,loadFine,loadL,cellsAt,Trk.putNew,Trk.up,Trk.touch,Trk.gives,Trk.calm,opdsOf,Trk.fresh,LEnv.keep,List.map_cons,List.map_nil,nbeq,nble,nblt,lenL,bin_lss,natL_nat,List.any_cons,List.any_nil,Bool.or_false,Bool.or_true,Bool.and_true,Bool.false_and,Bool.not_true,Bool.not_false,Nat.reduceEqDiff,decide_true,decide_false,cond_true,cond_false,List.filter_nil,Nat.reduceAdd,reduceCtorEq,List.length_nil,List.length_cons,eq_self,Nat.le_refl,show ((k : Int) < (a.length : Int)) by omega,h2,h3,s1,s2,o1,o2,eq2,c,Bool.xor_false]
theorem pairs_c (nl ex nl' ex' : Bool) (sz sz' : Nat) (a b : List (Int × Int)) (ha : a.length < 1000000) (hb : b.length < 1000000) (m : LMem) : clF LP n_law04_pairs [FL nl ex sz a,FL nl' ex' sz' b] m = some (.P,.bool (decide (a = b)),m) := by
  refine call_P lp_law04_pairs rfl (by simp [LV.pures,LV.pure]) (m1 := []) ?_ rfl m
  by_cases hl : a.length = b.length
  · have h := pairs_loop nl ex nl' ex' sz sz' a b hl ha a.length 0 (by omega) rfl
    simp only [Int.natCast_zero] at h
    by_cases e : a = b
    · rw [if_pos e] at h
      rw [decide_eq_true e]
      simp only [law04_pairs,law04_pairs.B,exF_seq,exF_region,exF_block,exF_cond,exF_ret,exF_skip,runL,wantL,stepL,evL,evC,LEnv.at,putL,loadFine,LEnv.keep,LEnv.ofFrom,List.map_cons,List.map_nil,nbeq,lenL,bin_neq,Nat.reduceEqDiff,decide_true,decide_false,cond_true,cond_false,Nat.reduceAdd,reduceCtorEq,eq_self,retL,resultsL,resAllL,resOfL,not_true_eq_false,ne_eq,hl] at h ⊢
      simp only [LEnv.at,nbeq,decide_true,cond_true,eq_self,h]
    · rw [if_neg e] at h
      rw [decide_eq_false e]
      simp only [law04_pairs,law04_pairs.B,exF_seq,exF_region,exF_block,exF_cond,exF_ret,exF_skip,runL,wantL,stepL,evL,evC,LEnv.at,putL,loadFine,LEnv.keep,LEnv.ofFrom,List.map_cons,List.map_nil,nbeq,lenL,bin_neq,Nat.reduceEqDiff,decide_true,decide_false,cond_true,cond_false,Nat.reduceAdd,reduceCtorEq,eq_self,retL,resultsL,resAllL,resOfL,not_true_eq_false,ne_eq,hl] at h ⊢
      simp only [LEnv.at,nbeq,decide_true,cond_true,eq_self,h]
  · have e : ¬ a = b := fun c => hl (congrArg List.length c)
    have hl' : ¬ ((a.length : Int) = (b.length : Int)) := by omega
    rw [decide_eq_false e]
    simp only [law04_pairs,law04_pairs.B,exF_seq,exF_region,exF_cond,exF_ret,runL,wantL,stepL,evL,evC,LEnv.at,putL,loadFine,LEnv.keep,LEnv.ofFrom,List.map_cons,List.map_nil,nbeq,lenL,bin_neq,Nat.reduceEqDiff,decide_true,decide_false,cond_true,cond_false,Nat.reduceAdd,reduceCtorEq,eq_self,retL,resultsL,resAllL,resOfL,not_false_eq_true,ne_eq,hl']
end Go.Am.Ring
