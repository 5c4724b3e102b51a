/-
  What functions of chapter 01 compute, 6: how deep the water is, what is bare.
-/
import Derived.Test.YtoppeojgadbjeaaTopC4
set_option linter.unusedVariables false
set_option linter.unusedSimpArgs false
set_option maxRecDepth 10000
namespace Go.Am.Top
open Go.Am.G
def dep (hs out : List Int) (w : Int) (i : Nat) : Int := (if w > out.getD i 0 then w else out.getD i 0) - hs.getD i 0
theorem dep_loop {r c : Nat} {hs : List Int} (S : Sho r c hs) (nl ex : Bool) (sz : Nat) (out : List Int) (O : OkO hs c out) (w : Int) (hw : 0 ≤ w ∧ w ≤ 30) (n : Nat) : ∀ (k : Nat) (o : List Int),k + n = hs.length → o.length = 37 → (∀ i,i < k → o.getD i 0 = dep hs out w i) → (∀ i,k ≤ i → o.getD i 0 = out.getD i 0) →
    ∃ o' : List Int,exF LP ebb_depths.L0 [(1,.int .i64 w),(4,.ptr 1 0 37),(7,.ptr 2 0 37),(22,IL nl ex sz hs),(23,.int .i64 (hs.length : Int)),(24,.int .i64 (k : Int))] [⟨SH r c nl ex sz hs,true⟩,⟨zI.map (LV.int .i64),true⟩,⟨o.map (LV.int .i64),true⟩] =
      some (.exit 0,[(4,.ptr 1 0 37),(7,.ptr 2 0 37)],[⟨SH r c nl ex sz hs,true⟩,⟨zI.map (LV.int .i64),true⟩,⟨o'.map (LV.int .i64),true⟩]) ∧ o'.length = 37 ∧ ∀ i,i < hs.length → o'.getD i 0 = dep hs out w i := by
  have hle := S.le
  induction n with
  | zero =>
    intro k o hk hl ha hb
    refine ⟨o,?_,hl,fun i hi => ha i (by omega)⟩
    rw [ebb_depths.L0_eq]
    simp only [ebb_depths.B0,beqT,beqF,exF_seq,exF_region,exF_block,exF_cond,exF_ret,exF_exit,exF_skip,runL,wantL,stepL,evL,evC,LEnv.at,putL,loadFine,loadL,cellsAt,Trk.putNew,Trk.up,Trk.touch,Trk.gives,Trk.calm,Trk.hit,opdsOf,Trk.fresh,LEnv.keep,LEnv.ofFrom,List.map_cons,List.map_nil,nbeq,nble,nblt,ofAV,ofAVs,lenL,bin_add,bin_sub,bin_mul,bin_eql,bin_neq,bin_lss,bin_leq,bin_gtr,bin_geq,natL_nat,natL_zero,natL_one,natL_two,Nat.zero_mul,List.any_cons,List.any_nil,Bool.or_false,Bool.false_or,Bool.true_or,Bool.or_true,Bool.and_true,Bool.true_and,Bool.and_false,Bool.false_and,Bool.not_true,Bool.not_false,Nat.reduceBEq,Nat.reduceEqDiff,decide_true,decide_false,cond_true,cond_false,List.filter_nil,List.filter_cons,Nat.reduceAdd,Nat.reduceLeDiff,reduceCtorEq,List.length_nil,List.length_cons,Nat.mul_one,if_true,if_false,Bool.false_eq_true,eq_self,and_true,true_and,retL,resultsL,resAllL,resOfL,List.append_nil,List.nil_append,List.cons_append,true_or,or_true,false_or,or_false,false_and,and_false,not_true_eq_false,not_false_eq_true,ne_eq,unL,trim_nil,views_pures,LV.pures,LV.pure,freeze,Nat.reduceDiv,Int.reduceEq,Int.reduceLT,Int.reduceLE,Int.natCast_zero,LV.cells,allocL,List.getElem?_cons_zero,List.getElem?_cons_succ,storeL,spliceL,List.take_zero,List.take_succ_cons,List.drop_zero,List.drop_succ_cons,List.drop_nil,List.take_nil,Nat.le_refl,Nat.reduceMul,List.set_cons_zero,List.set_cons_succ,LV.scalar,List.all_cons,List.all_nil,Nat.lt_add_one,Nat.zero_lt_one,Nat.reduceLT,Nat.lt_irrefl,fillL,List.length_append,foldIntL,kind_beq,pures_int,solids_int,plains_int,unders_int,scalars_int,show ¬ ((k : Int) < (hs.length : Int)) by omega]
  | succ n ih =>
    intro k o hk hl ha hb
    have h2 : k < hs.length := by omega
    have hat := S.at h2
    have hok := O.val k h2
    unfold okA at hok
    have hbk := hb k (Nat.le_refl _)
    have hd : dep hs out w k = (if w > o[k] then w else o[k]) - hs[k] := by
      unfold dep
      rw [← hbk,getD_at h2,getD_at (show k < o.length by omega)]
    rw [getD_at h2,← hbk,getD_at (show k < o.length by omega)] at hok
    have hw2 : IntKind.i64.wrap ((if w > o[k] then w else o[k]) - hs[k]) = dep hs out w k := by
      rw [hd]
      refine wrap_in ?_
      split <;> omega
    obtain ⟨o',h1,h3⟩ := ih (k + 1) (o.set k (dep hs out w k)) (by omega) (by simp [hl])
      (fun i hi => by
        rw [getD_set (by omega)]
        by_cases e : k = i
        · subst e; rw [if_pos rfl]
        · rw [if_neg e]; exact ha i (by omega))
      (fun i hi => by
        rw [getD_set (by omega),if_neg (by omega)]
        exact hb i (by omega))
    refine ⟨o',?_,h3⟩
    have hlen : (o.map (LV.int .i64)).length = 37 := by rw [List.length_map,hl]
    have hst := set_int .i64 o k (dep hs out w k) (by omega)
    have wk := wrap_succ (show k + 1 < 9223372036854775808 by omega)
    rw [ebb_depths.L0_eq]
    simp only [ebb_depths.B0,beqT,beqF,exF_seq,exF_region,exF_block,exF_cond,exF_ret,exF_exit,exF_skip,runL,wantL,stepL,evL,evC,LEnv.at,putL,loadFine,loadL,cellsAt,Trk.putNew,Trk.up,Trk.touch,Trk.gives,Trk.calm,Trk.hit,opdsOf,Trk.fresh,LEnv.keep,LEnv.ofFrom,List.map_cons,List.map_nil,nbeq,nble,nblt,ofAV,ofAVs,lenL,bin_add,bin_sub,bin_mul,bin_eql,bin_neq,bin_lss,bin_leq,bin_gtr,bin_geq,natL_nat,natL_zero,natL_one,natL_two,Nat.zero_mul,List.any_cons,List.any_nil,Bool.or_false,Bool.false_or,Bool.true_or,Bool.or_true,Bool.and_true,Bool.true_and,Bool.and_false,Bool.false_and,Bool.not_true,Bool.not_false,Nat.reduceBEq,Nat.reduceEqDiff,decide_true,decide_false,cond_true,cond_false,List.filter_nil,List.filter_cons,Nat.reduceAdd,Nat.reduceLeDiff,reduceCtorEq,List.length_nil,List.length_cons,Nat.mul_one,if_true,if_false,Bool.false_eq_true,eq_self,and_true,true_and,retL,resultsL,resAllL,resOfL,List.append_nil,List.nil_append,List.cons_append,true_or,or_true,false_or,or_false,false_and,and_false,not_true_eq_false,not_false_eq_true,ne_eq,unL,trim_nil,views_pures,LV.pures,LV.pure,freeze,Nat.reduceDiv,Int.reduceEq,Int.reduceLT,Int.reduceLE,Int.natCast_zero,LV.cells,allocL,List.getElem?_cons_zero,List.getElem?_cons_succ,storeL,spliceL,List.take_zero,List.take_succ_cons,List.drop_zero,List.drop_succ_cons,List.drop_nil,List.take_nil,Nat.le_refl,Nat.reduceMul,List.set_cons_zero,List.set_cons_succ,LV.scalar,List.all_cons,List.all_nil,Nat.lt_add_one,Nat.zero_lt_one,Nat.reduceLT,Nat.lt_irrefl,fillL,List.length_append,foldIntL,kind_beq,pures_int,solids_int,plains_int,unders_int,scalars_int,show (k : Int) < (hs.length : Int) by omega,h2,int_at _ _ _ h2,int_at _ _ _ (show k < o.length by omega),hlen,show k < 37 by omega,show k + 1 ≤ 37 by omega,Nat.zero_add,hw2,hst,wk,h1]
theorem depths_c {r c : Nat} {hs : List Int} (S : Sho r c hs) (nl ex : Bool) (sz : Nat) (out : List Int) (O : OkO hs c out) (hS : ∀ m,clF LP n_ebb_Shore_sills [.agg (SH r c nl ex sz hs)] m = some (.P,.agg (out.map (LV.int .i64)),m)) (w : Int) (hw : 0 ≤ w ∧ w ≤ 30) :
    ∃ o : List Int,o.length = 37 ∧ (∀ i,i < hs.length → o.getD i 0 = dep hs out w i) ∧ ∀ m,clF LP n_ebb_depths [.agg (SH r c nl ex sz hs),.int .i64 w] m = some (.P,.tup [.agg (o.map (LV.int .i64)),.int .i64 0],m) := by
  have hle := S.le
  obtain ⟨o,h1,hl,ho⟩ := dep_loop S nl ex sz out O w hw hs.length 0 out (by omega) O.len (by omega) (fun _ _ => rfl)
  refine ⟨o,hl,ho,fun m => ?_⟩
  have hc := fun m => check_c S nl ex sz m
  have hwr := fun m => wrong_c w m
  rw [decide_eq_true hw] at hwr
  have hlen : (o.map (LV.int .i64)).length = 37 := by rw [List.length_map,hl]
  have htk : (o.map (LV.int .i64)).take 37 = o.map (LV.int .i64) := List.take_of_length_le (by omega)
  have hlen2 : (out.map (LV.int .i64)).length = 37 := by rw [List.length_map,O.len]
  have hzz : ∀ a : LV,[a,a,a,a,a,a,a,a,a,a,a,a,a,a,a,a,a,a,a,a,a,a,a,a,a,a,a,a,a,a,a,a,a,a,a,a,a] = List.replicate 37 a := fun a => rfl
  have hzm : zI.map (LV.int .i64) = List.replicate 37 (LV.int .i64 0) := by simp [zI]
  have hdz : (List.replicate 37 (LV.int .i64 0)).drop 37 = [] := List.drop_eq_nil_of_le (by simp)
  refine call_P lp_ebb_depths rfl (by simp [LV.pures,LV.pure,pures_int]) (m1 := [⟨SH r c nl ex sz hs,true⟩,⟨o.map (LV.int .i64),true⟩,⟨o.map (LV.int .i64),true⟩]) ?_ (by simp [LV.pure,LV.pures,pures_int]) m
  simp only [Int.natCast_zero] at h1
  rw [hzm] at h1
  simp only [ebb_depths,ebb_depths.B,beqT,beqF,exF_seq,exF_region,exF_block,exF_cond,exF_ret,exF_exit,exF_skip,runL,wantL,stepL,evL,evC,LEnv.at,putL,loadFine,loadL,cellsAt,Trk.putNew,Trk.up,Trk.touch,Trk.gives,Trk.calm,Trk.hit,opdsOf,Trk.fresh,LEnv.keep,LEnv.ofFrom,List.map_cons,List.map_nil,nbeq,nble,nblt,ofAV,ofAVs,lenL,bin_add,bin_sub,bin_mul,bin_eql,bin_neq,bin_lss,bin_leq,bin_gtr,bin_geq,natL_nat,natL_zero,natL_one,natL_two,Nat.zero_mul,List.any_cons,List.any_nil,Bool.or_false,Bool.false_or,Bool.true_or,Bool.or_true,Bool.and_true,Bool.true_and,Bool.and_false,Bool.false_and,Bool.not_true,Bool.not_false,Nat.reduceBEq,Nat.reduceEqDiff,decide_true,decide_false,cond_true,cond_false,List.filter_nil,List.filter_cons,Nat.reduceAdd,Nat.reduceLeDiff,reduceCtorEq,List.length_nil,List.length_cons,Nat.mul_one,if_true,if_false,Bool.false_eq_true,eq_self,and_true,true_and,retL,resultsL,resAllL,resOfL,List.append_nil,List.nil_append,List.cons_append,true_or,or_true,false_or,or_false,false_and,and_false,not_true_eq_false,not_false_eq_true,ne_eq,unL,trim_nil,views_pures,LV.pures,LV.pure,freeze,Nat.reduceDiv,Int.reduceEq,Int.reduceLT,Int.reduceLE,Int.natCast_zero,LV.cells,allocL,List.getElem?_cons_zero,List.getElem?_cons_succ,storeL,spliceL,List.take_zero,List.take_succ_cons,List.drop_zero,List.drop_succ_cons,List.drop_nil,List.take_nil,Nat.le_refl,Nat.reduceMul,List.set_cons_zero,List.set_cons_succ,LV.scalar,List.all_cons,List.all_nil,Nat.lt_add_one,Nat.zero_lt_one,Nat.reduceLT,Nat.lt_irrefl,fillL,List.length_append,foldIntL,kind_beq,pures_int,solids_int,plains_int,unders_int,scalars_int,hc,hwr,hS,hzz,List.length_replicate,hlen2,hlen,hdz,htk,h1]
abbrev ci (l : List Nat) : List Int := l.map fun x : Nat => (x : Int)
def levs (hs out : List Int) (i : Nat) : Nat := if out.getD i 0 = hs.getD i 0 then (hs.getD i 0).toNat + 1 else 0
theorem dep_levs {hs out : List Int} {c i : Nat} (h : okA hs c i (out.getD i 0)) (h0 : 0 ≤ hs.getD i 0) (w : Nat) : dep hs out (w : Int) i = 0 ↔ w < levs hs out i := by
  unfold okA at h
  unfold dep levs
  split <;> split <;> omega
theorem bare_loop {r c : Nat} {hs : List Int} (S : Sho r c hs) (nl ex : Bool) (sz : Nat) (o : List Int) (hl : o.length = 37) (T : Nat → Nat) (w : Nat) (hT : ∀ i,i < hs.length → (o.getD i 0 = 0 ↔ w < T i)) (n : Nat) : ∀ k,k + n = hs.length →
    exF LP ebb_Bare.L0 [(6,.ptr 1 0 37),(7,.int .i64 0),(8,GV 2 (ci (lv T k w))),(18,.int .i64 (hs.length : Int)),(19,.int .i64 (k : Int))] ([⟨SH r c nl ex sz hs,true⟩,⟨o.map (LV.int .i64),true⟩] ++ GM (ci (lv T k w))) =
      some (.exit 0,[(7,.int .i64 0),(8,GV 2 (ci (lv T hs.length w)))],[⟨SH r c nl ex sz hs,true⟩,⟨o.map (LV.int .i64),true⟩] ++ GM (ci (lv T hs.length w))) := by
  have hle := S.le
  induction n with
  | zero =>
    intro k hk
    obtain rfl : k = hs.length := by omega
    rw [ebb_Bare.L0_eq]
    simp only [ebb_Bare.B0,beqT,beqF,exF_seq,exF_region,exF_block,exF_cond,exF_ret,exF_exit,exF_skip,runL,wantL,stepL,evL,evC,LEnv.at,putL,loadFine,loadL,cellsAt,Trk.putNew,Trk.up,Trk.touch,Trk.gives,Trk.calm,Trk.hit,opdsOf,Trk.fresh,LEnv.keep,LEnv.ofFrom,List.map_cons,List.map_nil,nbeq,nble,nblt,ofAV,ofAVs,lenL,bin_add,bin_sub,bin_mul,bin_eql,bin_neq,bin_lss,bin_leq,bin_gtr,bin_geq,natL_nat,natL_zero,natL_one,natL_two,Nat.zero_mul,List.any_cons,List.any_nil,Bool.or_false,Bool.false_or,Bool.true_or,Bool.or_true,Bool.and_true,Bool.true_and,Bool.and_false,Bool.false_and,Bool.not_true,Bool.not_false,Nat.reduceBEq,Nat.reduceEqDiff,decide_true,decide_false,cond_true,cond_false,List.filter_nil,List.filter_cons,Nat.reduceAdd,Nat.reduceLeDiff,reduceCtorEq,List.length_nil,List.length_cons,Nat.mul_one,if_true,if_false,Bool.false_eq_true,eq_self,and_true,true_and,retL,resultsL,resAllL,resOfL,List.append_nil,List.nil_append,List.cons_append,true_or,or_true,false_or,or_false,false_and,and_false,not_true_eq_false,not_false_eq_true,ne_eq,unL,trim_nil,views_pures,LV.pures,LV.pure,freeze,Nat.reduceDiv,Int.reduceEq,Int.reduceLT,Int.reduceLE,Int.natCast_zero,LV.cells,allocL,List.getElem?_cons_zero,List.getElem?_cons_succ,storeL,spliceL,List.take_zero,List.take_succ_cons,List.drop_zero,List.drop_succ_cons,List.drop_nil,List.take_nil,Nat.le_refl,Nat.reduceMul,List.set_cons_zero,List.set_cons_succ,LV.scalar,List.all_cons,List.all_nil,Nat.lt_add_one,Nat.zero_lt_one,Nat.reduceLT,Nat.lt_irrefl,fillL,foldIntL,kind_beq,pures_int,solids_int,plains_int,unders_int,scalars_int,Int.lt_irrefl]
  | succ n ih =>
    intro k hk
    have h2 : k < hs.length := by omega
    have ih := ih (k + 1) (by omega)
    have hT := hT k h2
    rw [getD_at (show k < o.length by omega)] at hT
    have hlen : (o.map (LV.int .i64)).length = 37 := by rw [List.length_map,hl]
    have wk := wrap_succ (show k + 1 < 9223372036854775808 by omega)
    have hok := int_at .i64 o k (by omega)
    have e : lv T (k + 1) w = lv T k w ++ if w < T k then [k] else [] := by
      unfold lv
      rw [List.range_succ,List.filter_append]
      by_cases h : w < T k <;> simp [h]
    have hll := lv_len T k w
    have happ := append_grow [⟨SH r c nl ex sz hs,true⟩,⟨o.map (LV.int .i64),true⟩] (ci (lv T k w)) (k : Int) true (by rw [List.length_map]; omega)
    simp only [List.length_cons,List.length_nil,Nat.zero_add,Nat.reduceAdd] at happ
    rw [ebb_Bare.L0_eq]
    by_cases h : w < T k
    · have hz := hT.2 h
      rw [if_pos h] at e
      have e2 : ci (lv T (k + 1) w) = ci (lv T k w) ++ [(k : Int)] := by rw [e]; simp [ci]
      rw [e2] at ih
      rw [hz] at hok
      generalize GM (ci (lv T k w)) = M0 at *
      generalize GM (ci (lv T k w) ++ [(k : Int)]) = M1 at *
      generalize GV 2 (ci (lv T k w)) = V0 at *
      generalize GV 2 (ci (lv T k w) ++ [(k : Int)]) = V1 at *
      simp only [List.cons_append,List.nil_append] at happ ih ⊢
      simp only [ebb_Bare.B0,beqT,beqF,exF_seq,exF_region,exF_block,exF_cond,exF_ret,exF_exit,exF_skip,runL,wantL,stepL,evL,evC,LEnv.at,putL,loadFine,loadL,cellsAt,Trk.putNew,Trk.up,Trk.touch,Trk.gives,Trk.calm,Trk.hit,opdsOf,Trk.fresh,LEnv.keep,LEnv.ofFrom,List.map_cons,List.map_nil,nbeq,nble,nblt,ofAV,ofAVs,lenL,bin_add,bin_sub,bin_mul,bin_eql,bin_neq,bin_lss,bin_leq,bin_gtr,bin_geq,natL_nat,natL_zero,natL_one,natL_two,Nat.zero_mul,List.any_cons,List.any_nil,Bool.or_false,Bool.false_or,Bool.true_or,Bool.or_true,Bool.and_true,Bool.true_and,Bool.and_false,Bool.false_and,Bool.not_true,Bool.not_false,Nat.reduceBEq,Nat.reduceEqDiff,decide_true,decide_false,cond_true,cond_false,List.filter_nil,List.filter_cons,Nat.reduceAdd,Nat.reduceLeDiff,reduceCtorEq,List.length_nil,List.length_cons,Nat.mul_one,if_true,if_false,Bool.false_eq_true,eq_self,and_true,true_and,retL,resultsL,resAllL,resOfL,List.append_nil,List.nil_append,List.cons_append,true_or,or_true,false_or,or_false,false_and,and_false,not_true_eq_false,not_false_eq_true,ne_eq,unL,trim_nil,views_pures,LV.pures,LV.pure,freeze,Nat.reduceDiv,Int.reduceEq,Int.reduceLT,Int.reduceLE,Int.natCast_zero,LV.cells,allocL,List.getElem?_cons_zero,List.getElem?_cons_succ,storeL,spliceL,List.take_zero,List.take_succ_cons,List.drop_zero,List.drop_succ_cons,List.drop_nil,List.take_nil,Nat.le_refl,Nat.reduceMul,List.set_cons_zero,List.set_cons_succ,LV.scalar,List.all_cons,List.all_nil,Nat.lt_add_one,Nat.zero_lt_one,Nat.reduceLT,Nat.lt_irrefl,fillL,foldIntL,kind_beq,pures_int,solids_int,plains_int,unders_int,scalars_int,show (k : Int) < (hs.length : Int) by omega,show k < 37 by omega,Nat.zero_add,hlen,hok,happ,wk,ih]
    · have hz : ¬ o[k] = 0 := fun c => h (hT.1 c)
      rw [if_neg h] at e
      rw [e,List.append_nil] at ih
      generalize GM (ci (lv T k w)) = M0 at *
      generalize GV 2 (ci (lv T k w)) = V0 at *
      simp only [List.cons_append,List.nil_append] at ih ⊢
      simp only [ebb_Bare.B0,beqT,beqF,exF_seq,exF_region,exF_block,exF_cond,exF_ret,exF_exit,exF_skip,runL,wantL,stepL,evL,evC,LEnv.at,putL,loadFine,loadL,cellsAt,Trk.putNew,Trk.up,Trk.touch,Trk.gives,Trk.calm,Trk.hit,opdsOf,Trk.fresh,LEnv.keep,LEnv.ofFrom,List.map_cons,List.map_nil,nbeq,nble,nblt,ofAV,ofAVs,lenL,bin_add,bin_sub,bin_mul,bin_eql,bin_neq,bin_lss,bin_leq,bin_gtr,bin_geq,natL_nat,natL_zero,natL_one,natL_two,Nat.zero_mul,List.any_cons,List.any_nil,Bool.or_false,Bool.false_or,Bool.true_or,Bool.or_true,Bool.and_true,Bool.true_and,Bool.and_false,Bool.false_and,Bool.not_true,Bool.not_false,Nat.reduceBEq,Nat.reduceEqDiff,decide_true,decide_false,cond_true,cond_false,List.filter_nil,List.filter_cons,Nat.reduceAdd,Nat.reduceLeDiff,reduceCtorEq,List.length_nil,List.length_cons,Nat.mul_one,if_true,if_false,Bool.false_eq_true,eq_self,and_true,true_and,retL,resultsL,resAllL,resOfL,List.append_nil,List.nil_append,List.cons_append,true_or,or_true,false_or,or_false,false_and,and_false,not_true_eq_false,not_false_eq_true,ne_eq,unL,trim_nil,views_pures,LV.pures,LV.pure,freeze,Nat.reduceDiv,Int.reduceEq,Int.reduceLT,Int.reduceLE,Int.natCast_zero,LV.cells,allocL,List.getElem?_cons_zero,List.getElem?_cons_succ,storeL,spliceL,List.take_zero,List.take_succ_cons,List.drop_zero,List.drop_succ_cons,List.drop_nil,List.take_nil,Nat.le_refl,Nat.reduceMul,List.set_cons_zero,List.set_cons_succ,LV.scalar,List.all_cons,List.all_nil,Nat.lt_add_one,Nat.zero_lt_one,Nat.reduceLT,Nat.lt_irrefl,fillL,foldIntL,kind_beq,pures_int,solids_int,plains_int,unders_int,scalars_int,show (k : Int) < (hs.length : Int) by omega,show k < 37 by omega,Nat.zero_add,hlen,hok,hz,wk,ih]
theorem bare_c {r c : Nat} {hs : List Int} (S : Sho r c hs) (nl ex : Bool) (sz : Nat) :
    ∃ T : Nat → Nat,(∀ x,T x ≤ 31) ∧ (∀ x,x < hs.length → hs.length ≤ x + c → 1 ≤ T x) ∧ ∀ w : Nat,w ≤ 30 → ∀ m,clF LP n_ebb_Bare [.agg (SH r c nl ex sz hs),.int .i64 (w : Int)] m = some (.P,.tup [RL (ci (lv T hs.length w)),.int .i64 0],m) := by
  have hle := S.le
  obtain ⟨out,O,hS⟩ := sills_c S nl ex sz
  refine ⟨levs hs out,fun x => ?_,fun x hx hc => ?_,fun w hw m => ?_⟩
  · unfold levs
    split
    · by_cases h : x < hs.length
      · have := S.at h
        rw [getD_at h]; omega
      · rw [show hs.getD x 0 = 0 by simp [h]]; omega
    · omega
  · have := O.val x hx
    unfold okA at this
    unfold levs
    rw [if_pos (this.2.2 hc)]
    omega
  · obtain ⟨o,hl,ho,hD⟩ := depths_c S nl ex sz out O hS (w : Int) (by omega)
    have hT : ∀ i,i < hs.length → (o.getD i 0 = 0 ↔ w < levs hs out i) := fun i hi => by
      rw [ho i hi]
      exact dep_levs (c := c) (O.val i hi) (by have := S.at hi; rw [getD_at hi]; omega) w
    have h1 := bare_loop (c := c) S nl ex sz o hl (levs hs out) w hT hs.length 0 (by omega)
    have e0 : lv (levs hs out) 0 w = [] := by simp [lv]
    rw [e0] at h1
    simp only [ci,List.map_nil,GV_nil,GM_nil,List.append_nil,Int.natCast_zero] at h1
    have hlen : (o.map (LV.int .i64)).length = 37 := by rw [List.length_map,hl]
    have hzz : ∀ a : LV,[a,a,a,a,a,a,a,a,a,a,a,a,a,a,a,a,a,a,a,a,a,a,a,a,a,a,a,a,a,a,a,a,a,a,a,a,a] = List.replicate 37 a := fun a => rfl
    have hdz : (List.replicate 37 (LV.int .i64 0)).drop 37 = [] := List.drop_eq_nil_of_le (by simp)
    have hv := view_gv2 ([⟨SH r c nl ex sz hs,true⟩,⟨o.map (LV.int .i64),true⟩] ++ GM (ci (lv (levs hs out) hs.length w))) 2 (ci (lv (levs hs out) hs.length w)) (.int .i64 0) rfl true (fun h => by simp [GM,h])
    refine call_Pv lp_ebb_Bare rfl (by simp [LV.pures,LV.pure,pures_int]) (m1 := [⟨SH r c nl ex sz hs,true⟩,⟨o.map (LV.int .i64),true⟩] ++ GM (ci (lv (levs hs out) hs.length w))) ?_ hv m
    simp only [ebb_Bare,ebb_Bare.B,beqT,beqF,exF_seq,exF_region,exF_block,exF_cond,exF_ret,exF_exit,exF_skip,runL,wantL,stepL,evL,evC,LEnv.at,putL,loadFine,loadL,cellsAt,Trk.putNew,Trk.up,Trk.touch,Trk.gives,Trk.calm,Trk.hit,opdsOf,Trk.fresh,LEnv.keep,LEnv.ofFrom,List.map_cons,List.map_nil,nbeq,nble,nblt,ofAV,ofAVs,lenL,bin_add,bin_sub,bin_mul,bin_eql,bin_neq,bin_lss,bin_leq,bin_gtr,bin_geq,natL_nat,natL_zero,natL_one,natL_two,Nat.zero_mul,List.any_cons,List.any_nil,Bool.or_false,Bool.false_or,Bool.true_or,Bool.or_true,Bool.and_true,Bool.true_and,Bool.and_false,Bool.false_and,Bool.not_true,Bool.not_false,Nat.reduceBEq,Nat.reduceEqDiff,decide_true,decide_false,cond_true,cond_false,List.filter_nil,List.filter_cons,Nat.reduceAdd,Nat.reduceLeDiff,reduceCtorEq,List.length_nil,List.length_cons,Nat.mul_one,if_true,if_false,Bool.false_eq_true,eq_self,and_true,true_and,retL,resultsL,resAllL,resOfL,List.append_nil,List.nil_append,List.cons_append,true_or,or_true,false_or,or_false,false_and,and_false,not_true_eq_false,not_false_eq_true,ne_eq,unL,trim_nil,views_pures,LV.pures,LV.pure,freeze,Nat.reduceDiv,Int.reduceEq,Int.reduceLT,Int.reduceLE,Int.natCast_zero,LV.cells,allocL,List.getElem?_cons_zero,List.getElem?_cons_succ,storeL,spliceL,List.take_zero,List.take_succ_cons,List.drop_zero,List.drop_succ_cons,List.drop_nil,List.take_nil,Nat.le_refl,Nat.reduceMul,List.set_cons_zero,List.set_cons_succ,LV.scalar,List.all_cons,List.all_nil,Nat.lt_add_one,Nat.zero_lt_one,Nat.reduceLT,Nat.lt_irrefl,fillL,List.length_append,foldIntL,kind_beq,pures_int,solids_int,plains_int,unders_int,scalars_int,hD,hzz,List.length_replicate,hdz,hlen,h1]
end Go.Am.Top
