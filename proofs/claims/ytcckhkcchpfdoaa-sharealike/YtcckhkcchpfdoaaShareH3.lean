import Derived.Test.YtcckhkcchpfdoaaShareH1
import Derived.Test.YtcckhkcchpfdoaaLm10
import Derived.Test.YtcckhkcchpfdoaaAm17
import Derived.Below
import Derived.ChangeSlices
import Derived.Deep.Matrix
import Derived.OpenShut
import Derived.Carry
set_option linter.unusedVariables false
set_option linter.unusedSimpArgs false
set_option maxRecDepth 10000
set_option maxHeartbeats 400000
namespace Go.Am.Share
open Go.Am.G
def wtB (S T : List Int) (i j : Nat) : Bool := decide (S.getD j 0 - T.getD j 0 ≤ S.getD i 0)
def evB (S : List Int) (i j : Nat) : Bool := decide (S.getD i 0 = S.getD j 0)
theorem int_at' {l : List Int} {k : Nat} (h : k < l.length) : (ints l)[k]? = some (.int .i64 (l.getD k 0)) := by simp [List.getD_eq_getElem?_getD,h]
theorem alike_L3 (S T : List Int) (r : Nat) (hr : r ≤ 4) (hS : S.length = r) (hT : T.length = r) (hb : ∀ j,0 ≤ S.getD j 0 ∧ S.getD j 0 ≤ 120 ∧ 0 ≤ T.getD j 0 ∧ T.getD j 0 ≤ 20) (v5 v7 t92 t93 : LV) (q : Nat) (M : LMem) (hq : M[q]? = some ⟨ints S,true⟩) (ht : M[q + 1]? = some ⟨ints T,true⟩) (i : Nat) (hi : i < r) (d : Nat) : ∀ (j : Nat) (w e : Bool),j + d = r →
    exF LP law07_ShareAlike.L3 [(5,v5),(7,v7),(9,SLz q r),(10,SLz (q + 1) r),(13,.bool w),(14,.bool e),(15,.int .i64 (i : Int)),(92,t92),(93,t93),(97,.int .i64 (r : Int)),(98,.int .i64 (j : Int))] M =
      some (.exit 8,[(5,v5),(7,v7),(9,SLz q r),(10,SLz (q + 1) r),(13,.bool (w && (List.range' j d).all (wtB S T i))),(14,.bool (e && (List.range' j d).all (evB S i))),(92,t92),(93,t93)],M) := by
  induction d with
  | zero =>
    intro j w e hj
    obtain rfl : j = r := by omega
    rw [law07_ShareAlike.L3_eq]
    simp only [law07_ShareAlike.B3,beqT,beqF,exF_seq,exF_region,exF_block,exF_cond,exF_ret,exF_exit,exF_skip,runL,wantL,stepL,evL,evC,LEnv.at,putL,loadFine,loadL,cellsAt,Trk.putNew,Trk.up,Trk.touch,Trk.gives,Trk.calm,Trk.hit,opdsOf,Trk.fresh,LEnv.keep,LEnv.ofFrom,List.map_cons,List.map_nil,nbeq,nble,nblt,ofAV,ofAVs,lenL,bin_add,bin_sub,bin_mul,bin_eql,bin_neq,bin_lss,bin_leq,bin_gtr,bin_geq,natL_nat,natL_zero,natL_one,natL_two,Nat.zero_mul,List.any_cons,List.any_nil,Bool.or_false,Bool.false_or,Bool.true_or,Bool.or_true,Bool.and_true,Bool.true_and,Bool.and_false,Bool.false_and,Bool.not_true,Bool.not_false,Nat.reduceBEq,Nat.reduceEqDiff,decide_true,decide_false,cond_true,cond_false,List.filter_nil,List.filter_cons,Nat.reduceAdd,Nat.reduceLeDiff,reduceCtorEq,List.length_nil,List.length_cons,Nat.mul_one,if_true,if_false,Bool.false_eq_true,eq_self,and_true,true_and,retL,resultsL,resAllL,resOfL,List.append_nil,List.nil_append,List.cons_append,true_or,or_true,false_or,or_false,false_and,and_false,not_true_eq_false,not_false_eq_true,ne_eq,unL,trim_nil,views_pures,LV.pures,LV.pure,freeze,Nat.reduceDiv,Int.reduceEq,Int.reduceLT,Int.reduceLE,Int.natCast_zero,LV.cells,allocL,List.getElem?_cons_zero,List.getElem?_cons_succ,storeL,spliceL,List.take_zero,List.take_succ_cons,List.drop_zero,List.drop_succ_cons,List.drop_nil,List.take_nil,Nat.le_refl,Nat.reduceMul,List.set_cons_zero,List.set_cons_succ,LV.scalar,List.all_cons,List.all_nil,Nat.lt_add_one,Nat.zero_lt_one,Nat.reduceLT,Nat.lt_irrefl,fillL,List.length_append,foldIntL,kind_beq,pures_int,solids_int,plains_int,unders_int,scalars_int,Int.lt_irrefl,List.range'_zero]
  | succ d ih =>
    intro j w e hj
    have hjr : j < r := by omega
    have hji : (j : Int) < (r : Int) := by omega
    have hws := wrap_succ (show j + 1 < 9223372036854775808 by omega)
    have ih := ih (j + 1) (w && wtB S T i j) (e && evB S i j) (by omega)
    rw [Bool.and_assoc,Bool.and_assoc] at ih
    rw [List.range'_succ,List.all_cons,List.all_cons,← ih,law07_ShareAlike.L3_eq]
    have a1 := int_at' (l := S) (k := j) (by omega)
    have a2 := int_at' (l := T) (k := j) (by omega)
    have a3 := int_at' (l := S) (k := i) (by omega)
    have bj := hb j
    have bi := hb i
    have hw1 : IntKind.i64.wrap (S.getD j 0 - T.getD j 0) = S.getD j 0 - T.getD j 0 := wrap_in (by omega)
    have n3 : ¬ M.length ≤ q := by have := (List.getElem?_eq_some_iff.1 hq).1; omega
    have n4 : ¬ M.length ≤ q + 1 := by have := (List.getElem?_eq_some_iff.1 ht).1; omega
    have ls : (ints S).length = r := by rw [List.length_map,hS]
    have lt : (ints T).length = r := by rw [List.length_map,hT]
    have e1 : wtB S T i j = decide (S.getD j 0 - T.getD j 0 ≤ S.getD i 0) := rfl
    have e2 : evB S i j = decide (S.getD i 0 = S.getD j 0) := rfl
    rw [e1,e2]
    generalize S.getD j 0 = x at *
    generalize T.getD j 0 = y at *
    generalize S.getD i 0 = z at *
    generalize ints S = SI at *
    generalize ints T = TI at *
    cases w
    · cases e
      · simp only [law07_ShareAlike.B3,law07_ShareAlike.B3.R0,law07_ShareAlike.B3.R1,beqT,beqF,exF_seq,exF_region,exF_block,exF_cond,exF_ret,exF_exit,exF_skip,runL,wantL,stepL,evL,evC,LEnv.at,putL,loadFine,loadL,cellsAt,Trk.putNew,Trk.up,Trk.touch,Trk.gives,Trk.calm,Trk.hit,opdsOf,Trk.fresh,LEnv.keep,LEnv.ofFrom,List.map_cons,List.map_nil,nbeq,nble,nblt,ofAV,ofAVs,lenL,bin_add,bin_sub,bin_mul,bin_eql,bin_neq,bin_lss,bin_leq,bin_gtr,bin_geq,natL_nat,natL_zero,natL_one,natL_two,Nat.zero_mul,List.any_cons,List.any_nil,Bool.or_false,Bool.false_or,Bool.true_or,Bool.or_true,Bool.and_true,Bool.true_and,Bool.and_false,Bool.false_and,Bool.not_true,Bool.not_false,Nat.reduceBEq,Nat.reduceEqDiff,decide_true,decide_false,cond_true,cond_false,List.filter_nil,List.filter_cons,Nat.reduceAdd,Nat.reduceLeDiff,reduceCtorEq,List.length_nil,List.length_cons,Nat.mul_one,if_true,if_false,Bool.false_eq_true,eq_self,and_true,true_and,retL,resultsL,resAllL,resOfL,List.append_nil,List.nil_append,List.cons_append,true_or,or_true,false_or,or_false,false_and,and_false,not_true_eq_false,not_false_eq_true,ne_eq,unL,trim_nil,views_pures,LV.pures,LV.pure,freeze,Nat.reduceDiv,Int.reduceEq,Int.reduceLT,Int.reduceLE,Int.natCast_zero,LV.cells,allocL,List.getElem?_cons_zero,List.getElem?_cons_succ,storeL,spliceL,List.take_zero,List.take_succ_cons,List.drop_zero,List.drop_succ_cons,List.drop_nil,List.take_nil,Nat.le_refl,Nat.reduceMul,List.set_cons_zero,List.set_cons_succ,LV.scalar,List.all_cons,List.all_nil,Nat.lt_add_one,Nat.zero_lt_one,Nat.reduceLT,Nat.lt_irrefl,fillL,List.length_append,foldIntL,kind_beq,pures_int,solids_int,plains_int,unders_int,scalars_int,hji,hjr,hi,Nat.zero_add,hq,ht,ls,lt,a1,a2,a3,n3,n4,hw1,hws]
      · simp only [law07_ShareAlike.B3,law07_ShareAlike.B3.R0,law07_ShareAlike.B3.R1,beqT,beqF,exF_seq,exF_region,exF_block,exF_cond,exF_ret,exF_exit,exF_skip,runL,wantL,stepL,evL,evC,LEnv.at,putL,loadFine,loadL,cellsAt,Trk.putNew,Trk.up,Trk.touch,Trk.gives,Trk.calm,Trk.hit,opdsOf,Trk.fresh,LEnv.keep,LEnv.ofFrom,List.map_cons,List.map_nil,nbeq,nble,nblt,ofAV,ofAVs,lenL,bin_add,bin_sub,bin_mul,bin_eql,bin_neq,bin_lss,bin_leq,bin_gtr,bin_geq,natL_nat,natL_zero,natL_one,natL_two,Nat.zero_mul,List.any_cons,List.any_nil,Bool.or_false,Bool.false_or,Bool.true_or,Bool.or_true,Bool.and_true,Bool.true_and,Bool.and_false,Bool.false_and,Bool.not_true,Bool.not_false,Nat.reduceBEq,Nat.reduceEqDiff,decide_true,decide_false,cond_true,cond_false,List.filter_nil,List.filter_cons,Nat.reduceAdd,Nat.reduceLeDiff,reduceCtorEq,List.length_nil,List.length_cons,Nat.mul_one,if_true,if_false,Bool.false_eq_true,eq_self,and_true,true_and,retL,resultsL,resAllL,resOfL,List.append_nil,List.nil_append,List.cons_append,true_or,or_true,false_or,or_false,false_and,and_false,not_true_eq_false,not_false_eq_true,ne_eq,unL,trim_nil,views_pures,LV.pures,LV.pure,freeze,Nat.reduceDiv,Int.reduceEq,Int.reduceLT,Int.reduceLE,Int.natCast_zero,LV.cells,allocL,List.getElem?_cons_zero,List.getElem?_cons_succ,storeL,spliceL,List.take_zero,List.take_succ_cons,List.drop_zero,List.drop_succ_cons,List.drop_nil,List.take_nil,Nat.le_refl,Nat.reduceMul,List.set_cons_zero,List.set_cons_succ,LV.scalar,List.all_cons,List.all_nil,Nat.lt_add_one,Nat.zero_lt_one,Nat.reduceLT,Nat.lt_irrefl,fillL,List.length_append,foldIntL,kind_beq,pures_int,solids_int,plains_int,unders_int,scalars_int,hji,hjr,hi,Nat.zero_add,hq,ht,ls,lt,a1,a2,a3,n3,n4,hw1,hws]
    · cases e
      · simp only [law07_ShareAlike.B3,law07_ShareAlike.B3.R0,law07_ShareAlike.B3.R1,beqT,beqF,exF_seq,exF_region,exF_block,exF_cond,exF_ret,exF_exit,exF_skip,runL,wantL,stepL,evL,evC,LEnv.at,putL,loadFine,loadL,cellsAt,Trk.putNew,Trk.up,Trk.touch,Trk.gives,Trk.calm,Trk.hit,opdsOf,Trk.fresh,LEnv.keep,LEnv.ofFrom,List.map_cons,List.map_nil,nbeq,nble,nblt,ofAV,ofAVs,lenL,bin_add,bin_sub,bin_mul,bin_eql,bin_neq,bin_lss,bin_leq,bin_gtr,bin_geq,natL_nat,natL_zero,natL_one,natL_two,Nat.zero_mul,List.any_cons,List.any_nil,Bool.or_false,Bool.false_or,Bool.true_or,Bool.or_true,Bool.and_true,Bool.true_and,Bool.and_false,Bool.false_and,Bool.not_true,Bool.not_false,Nat.reduceBEq,Nat.reduceEqDiff,decide_true,decide_false,cond_true,cond_false,List.filter_nil,List.filter_cons,Nat.reduceAdd,Nat.reduceLeDiff,reduceCtorEq,List.length_nil,List.length_cons,Nat.mul_one,if_true,if_false,Bool.false_eq_true,eq_self,and_true,true_and,retL,resultsL,resAllL,resOfL,List.append_nil,List.nil_append,List.cons_append,true_or,or_true,false_or,or_false,false_and,and_false,not_true_eq_false,not_false_eq_true,ne_eq,unL,trim_nil,views_pures,LV.pures,LV.pure,freeze,Nat.reduceDiv,Int.reduceEq,Int.reduceLT,Int.reduceLE,Int.natCast_zero,LV.cells,allocL,List.getElem?_cons_zero,List.getElem?_cons_succ,storeL,spliceL,List.take_zero,List.take_succ_cons,List.drop_zero,List.drop_succ_cons,List.drop_nil,List.take_nil,Nat.le_refl,Nat.reduceMul,List.set_cons_zero,List.set_cons_succ,LV.scalar,List.all_cons,List.all_nil,Nat.lt_add_one,Nat.zero_lt_one,Nat.reduceLT,Nat.lt_irrefl,fillL,List.length_append,foldIntL,kind_beq,pures_int,solids_int,plains_int,unders_int,scalars_int,hji,hjr,hi,Nat.zero_add,hq,ht,ls,lt,a1,a2,a3,n3,n4,hw1,hws]
      · simp only [law07_ShareAlike.B3,law07_ShareAlike.B3.R0,law07_ShareAlike.B3.R1,beqT,beqF,exF_seq,exF_region,exF_block,exF_cond,exF_ret,exF_exit,exF_skip,runL,wantL,stepL,evL,evC,LEnv.at,putL,loadFine,loadL,cellsAt,Trk.putNew,Trk.up,Trk.touch,Trk.gives,Trk.calm,Trk.hit,opdsOf,Trk.fresh,LEnv.keep,LEnv.ofFrom,List.map_cons,List.map_nil,nbeq,nble,nblt,ofAV,ofAVs,lenL,bin_add,bin_sub,bin_mul,bin_eql,bin_neq,bin_lss,bin_leq,bin_gtr,bin_geq,natL_nat,natL_zero,natL_one,natL_two,Nat.zero_mul,List.any_cons,List.any_nil,Bool.or_false,Bool.false_or,Bool.true_or,Bool.or_true,Bool.and_true,Bool.true_and,Bool.and_false,Bool.false_and,Bool.not_true,Bool.not_false,Nat.reduceBEq,Nat.reduceEqDiff,decide_true,decide_false,cond_true,cond_false,List.filter_nil,List.filter_cons,Nat.reduceAdd,Nat.reduceLeDiff,reduceCtorEq,List.length_nil,List.length_cons,Nat.mul_one,if_true,if_false,Bool.false_eq_true,eq_self,and_true,true_and,retL,resultsL,resAllL,resOfL,List.append_nil,List.nil_append,List.cons_append,true_or,or_true,false_or,or_false,false_and,and_false,not_true_eq_false,not_false_eq_true,ne_eq,unL,trim_nil,views_pures,LV.pures,LV.pure,freeze,Nat.reduceDiv,Int.reduceEq,Int.reduceLT,Int.reduceLE,Int.natCast_zero,LV.cells,allocL,List.getElem?_cons_zero,List.getElem?_cons_succ,storeL,spliceL,List.take_zero,List.take_succ_cons,List.drop_zero,List.drop_succ_cons,List.drop_nil,List.take_nil,Nat.le_refl,Nat.reduceMul,List.set_cons_zero,List.set_cons_succ,LV.scalar,List.all_cons,List.all_nil,Nat.lt_add_one,Nat.zero_lt_one,Nat.reduceLT,Nat.lt_irrefl,fillL,List.length_append,foldIntL,kind_beq,pures_int,solids_int,plains_int,unders_int,scalars_int,hji,hjr,hi,Nat.zero_add,hq,ht,ls,lt,a1,a2,a3,n3,n4,hw1,hws]
theorem alike_L4 (S T : List Int) (r : Nat) (hr : r ≤ 4) (hS : S.length = r) (hT : T.length = r) (hb : ∀ j,0 ≤ S.getD j 0 ∧ S.getD j 0 ≤ 120 ∧ 0 ≤ T.getD j 0 ∧ T.getD j 0 ≤ 20) (v5 v7 : LV) (q : Nat) (M : LMem) (hq : M[q]? = some ⟨ints S,true⟩) (ht : M[q + 1]? = some ⟨ints T,true⟩) (d : Nat) : ∀ (i : Nat) (w e : Bool),i + d = r →
    exF LP law07_ShareAlike.L4 [(5,v5),(7,v7),(9,SLz q r),(10,SLz (q + 1) r),(13,.bool w),(14,.bool e),(92,.int .i64 (r : Int)),(93,.int .i64 (i : Int))] M =
      some (.exit 6,[(5,v5),(7,v7),(13,.bool (w && (List.range' i d).all fun i => (List.range' 0 r).all (wtB S T i))),(14,.bool (e && (List.range' i d).all fun i => (List.range' 0 r).all (evB S i)))],M) := by
  induction d with
  | zero =>
    intro i w e hi
    obtain rfl : i = r := by omega
    rw [law07_ShareAlike.L4_eq]
    simp only [law07_ShareAlike.B4,beqT,beqF,exF_seq,exF_region,exF_block,exF_cond,exF_ret,exF_exit,exF_skip,runL,wantL,stepL,evL,evC,LEnv.at,putL,loadFine,loadL,cellsAt,Trk.putNew,Trk.up,Trk.touch,Trk.gives,Trk.calm,Trk.hit,opdsOf,Trk.fresh,LEnv.keep,LEnv.ofFrom,List.map_cons,List.map_nil,nbeq,nble,nblt,ofAV,ofAVs,lenL,bin_add,bin_sub,bin_mul,bin_eql,bin_neq,bin_lss,bin_leq,bin_gtr,bin_geq,natL_nat,natL_zero,natL_one,natL_two,Nat.zero_mul,List.any_cons,List.any_nil,Bool.or_false,Bool.false_or,Bool.true_or,Bool.or_true,Bool.and_true,Bool.true_and,Bool.and_false,Bool.false_and,Bool.not_true,Bool.not_false,Nat.reduceBEq,Nat.reduceEqDiff,decide_true,decide_false,cond_true,cond_false,List.filter_nil,List.filter_cons,Nat.reduceAdd,Nat.reduceLeDiff,reduceCtorEq,List.length_nil,List.length_cons,Nat.mul_one,if_true,if_false,Bool.false_eq_true,eq_self,and_true,true_and,retL,resultsL,resAllL,resOfL,List.append_nil,List.nil_append,List.cons_append,true_or,or_true,false_or,or_false,false_and,and_false,not_true_eq_false,not_false_eq_true,ne_eq,unL,trim_nil,views_pures,LV.pures,LV.pure,freeze,Nat.reduceDiv,Int.reduceEq,Int.reduceLT,Int.reduceLE,Int.natCast_zero,LV.cells,allocL,List.getElem?_cons_zero,List.getElem?_cons_succ,storeL,spliceL,List.take_zero,List.take_succ_cons,List.drop_zero,List.drop_succ_cons,List.drop_nil,List.take_nil,Nat.le_refl,Nat.reduceMul,List.set_cons_zero,List.set_cons_succ,LV.scalar,List.all_cons,List.all_nil,Nat.lt_add_one,Nat.zero_lt_one,Nat.reduceLT,Nat.lt_irrefl,fillL,List.length_append,foldIntL,kind_beq,pures_int,solids_int,plains_int,unders_int,scalars_int,Int.lt_irrefl,List.range'_zero]
  | succ d ih =>
    intro i w e hi
    have hir : i < r := by omega
    have hii : (i : Int) < (r : Int) := by omega
    have hws := wrap_succ (show i + 1 < 9223372036854775808 by omega)
    have h3 := alike_L3 S T r hr hS hT hb v5 v7 (.int .i64 (r : Int)) (.int .i64 (i : Int)) q M hq ht i hir r 0 w e (by omega)
    have ih := ih (i + 1) (w && (List.range' 0 r).all (wtB S T i)) (e && (List.range' 0 r).all (evB S i)) (by omega)
    rw [Bool.and_assoc,Bool.and_assoc] at ih
    rw [List.range'_succ,List.all_cons,List.all_cons,← ih,law07_ShareAlike.L4_eq]
    simp only [Int.natCast_zero] at h3
    generalize (List.range' 0 r).all (wtB S T i) = X at *
    generalize (List.range' 0 r).all (evB S i) = Y at *
    simp only [law07_ShareAlike.B4,beqT,beqF,exF_seq,exF_region,exF_block,exF_cond,exF_ret,exF_exit,exF_skip,runL,wantL,stepL,evL,evC,LEnv.at,putL,loadFine,loadL,cellsAt,Trk.putNew,Trk.up,Trk.touch,Trk.gives,Trk.calm,Trk.hit,opdsOf,Trk.fresh,LEnv.keep,LEnv.ofFrom,List.map_cons,List.map_nil,nbeq,nble,nblt,ofAV,ofAVs,lenL,bin_add,bin_sub,bin_mul,bin_eql,bin_neq,bin_lss,bin_leq,bin_gtr,bin_geq,natL_nat,natL_zero,natL_one,natL_two,Nat.zero_mul,List.any_cons,List.any_nil,Bool.or_false,Bool.false_or,Bool.true_or,Bool.or_true,Bool.and_true,Bool.true_and,Bool.and_false,Bool.false_and,Bool.not_true,Bool.not_false,Nat.reduceBEq,Nat.reduceEqDiff,decide_true,decide_false,cond_true,cond_false,List.filter_nil,List.filter_cons,Nat.reduceAdd,Nat.reduceLeDiff,reduceCtorEq,List.length_nil,List.length_cons,Nat.mul_one,if_true,if_false,Bool.false_eq_true,eq_self,and_true,true_and,retL,resultsL,resAllL,resOfL,List.append_nil,List.nil_append,List.cons_append,true_or,or_true,false_or,or_false,false_and,and_false,not_true_eq_false,not_false_eq_true,ne_eq,unL,trim_nil,views_pures,LV.pures,LV.pure,freeze,Nat.reduceDiv,Int.reduceEq,Int.reduceLT,Int.reduceLE,Int.natCast_zero,LV.cells,allocL,List.getElem?_cons_zero,List.getElem?_cons_succ,storeL,spliceL,List.take_zero,List.take_succ_cons,List.drop_zero,List.drop_succ_cons,List.drop_nil,List.take_nil,Nat.le_refl,Nat.reduceMul,List.set_cons_zero,List.set_cons_succ,LV.scalar,List.all_cons,List.all_nil,Nat.lt_add_one,Nat.zero_lt_one,Nat.reduceLT,Nat.lt_irrefl,fillL,List.length_append,foldIntL,kind_beq,pures_int,solids_int,plains_int,unders_int,scalars_int,hii,h3,hws]
theorem views_ab {m : LMem} {a v a' v' : LV} {i1 i2 : List Nat} (h1 : ∀ k,view (k + 3) m a = some (a',i1)) (h2 : ∀ k,view (k + 3) m v = some (v',i2)) (hn : LV.pures [a,v] = false) : views m [a,v] = some ([a',v'],i1 ++ i2) := by
  show viewL 100 m _ = _
  rw [viewL.eq_def]
  simp only [hn,cond_false]
  rw [viewC.eq_def]
  simp only [h1 95]
  rw [viewC.eq_def]
  simp only [h2 94]
  rw [viewC.eq_def]
  simp only [List.append_nil]
theorem outer_nil (P : Nat → Nat → Bool) (N : Nat) : outer P N 0 N = [] ↔ ∀ i j,i < N → j < N → P i j = false := by
  unfold outer inner
  rw [List.flatMap_eq_nil_iff]
  constructor
  · intro h i j hi hj
    have := h i (by rw [List.mem_range'_1]; omega)
    rw [List.map_eq_nil_iff,List.filter_eq_nil_iff] at this
    simpa using this j (by rw [List.mem_range'_1]; omega)
  · intro h i hi
    rw [List.mem_range'_1] at hi
    rw [List.map_eq_nil_iff,List.filter_eq_nil_iff]
    intro j hj
    rw [List.mem_range'_1] at hj
    rw [h i j (by omega) (by omega)]; decide
theorem all_pairs (P : Nat → Nat → Bool) (r : Nat) : ((List.range' 0 r).all fun i => (List.range' 0 r).all (P i)) = true ↔ ∀ i j,i < r → j < r → P i j = true := by
  simp only [List.all_eq_true,List.mem_range'_1]
  exact ⟨fun h i j hi hj => h i (by omega) j (by omega),fun h i hi j hj => h i j (by omega) (by omega)⟩
theorem alike_plain (h o : List Int) (H : Ok20 h) (h6 : h.length ≤ 6) (r : Nat) (ho : o.length = h.length) (hd : divE (List.replicate r h) o = 0) :
    decide (0 < fairV (List.replicate r h) o) = ((List.range' 0 r).all fun i => (List.range' 0 r).all (wtB (smL h o r h.length) (tpL h o r h.length) i)) ∧ decide (fairV (List.replicate r h) o = 2) = ((List.range' 0 r).all fun i => (List.range' 0 r).all (evB (smL h o r h.length) i)) := by
  have hg : ∀ i,i < r → (List.replicate r h).getD i [] = h := fun i hi => by simp [List.getD_eq_getElem?_getD,hi]
  have hs : ∀ j,j < r → (smL h o r h.length).getD j 0 = ws (j : Int) h o 0 := fun j hj => by
    have e : (wg (j : Int) h o (0,0)).1 = ws (j : Int) h o 0 := wg_ws (j : Int) h o (0,0)
    rw [List.getD_eq_getElem?_getD,smL_at _ _ _ _ _ hj,List.take_of_length_le (Nat.le_refl _),List.take_of_length_le (by omega),Option.getD_some,e]
  have ht : ∀ j,j < r → (tpL h o r h.length).getD j 0 = (wg (j : Int) h o (0,0)).2 := fun j hj => by
    rw [List.getD_eq_getElem?_getD,tpL_at _ _ _ _ _ hj,List.take_of_length_le (Nat.le_refl _),List.take_of_length_le (by omega),Option.getD_some]
  have hX : PX (List.replicate r h) o = [] ↔ ∀ i j,i < r → j < r → ws (j : Int) h o 0 - (wg (j : Int) h o (0,0)).2 ≤ ws (i : Int) h o 0 := by
    unfold PX
    rw [List.length_replicate,outer_nil]
    constructor
    · intro q i j hi hj
      have := q i j hi hj
      simp only [eX,hg i hi,decide_eq_false_iff_not] at this
      omega
    · intro q i j hi hj
      have := q i j hi hj
      simp only [eX,hg i hi,decide_eq_false_iff_not]
      omega
  have hW : PW (List.replicate r h) o = [] ↔ ∀ i j,i < r → j < r → ws (i : Int) h o 0 = ws (j : Int) h o 0 := by
    unfold PW
    rw [List.length_replicate,outer_nil]
    constructor
    · intro q i j hi hj
      have q1 := q i j hi hj
      have q2 := q j i hj hi
      simp only [eW,hg i hi,hg j hj,decide_eq_false_iff_not] at q1 q2
      omega
    · intro q i j hi hj
      have := q i j hi hj
      simp only [eW,hg i hi,decide_eq_false_iff_not]
      omega
  have hgp : ∀ j : Int,0 ≤ (wg j h o (0,0)).2 := fun j => (wg_bound j h o (0,0) H ⟨by simp,by simp⟩).1
  have hWX : PW (List.replicate r h) o = [] → PX (List.replicate r h) o = [] := fun q => hX.2 fun i j hi hj => by
    have := hW.1 q i j hi hj
    have := hgp (j : Int)
    omega
  have eA : ((List.range' 0 r).all fun i => (List.range' 0 r).all (wtB (smL h o r h.length) (tpL h o r h.length) i)) = decide (PX (List.replicate r h) o = []) := by
    rw [Bool.eq_iff_iff,all_pairs,decide_eq_true_eq,hX]
    refine ⟨fun q i j hi hj => ?_,fun q i j hi hj => ?_⟩
    · have := q i j hi hj
      rw [wtB,hs i hi,hs j hj,ht j hj] at this
      exact of_decide_eq_true this
    · rw [wtB,hs i hi,hs j hj,ht j hj]
      exact decide_eq_true (q i j hi hj)
  have eB : ((List.range' 0 r).all fun i => (List.range' 0 r).all (evB (smL h o r h.length) i)) = decide (PW (List.replicate r h) o = []) := by
    rw [Bool.eq_iff_iff,all_pairs,decide_eq_true_eq,hW]
    refine ⟨fun q i j hi hj => ?_,fun q i j hi hj => ?_⟩
    · have := q i j hi hj
      rw [evB,hs i hi,hs j hj] at this
      exact of_decide_eq_true this
    · rw [evB,hs i hi,hs j hj]
      exact decide_eq_true (q i j hi hj)
  rw [eA,eB]
  unfold fairV
  rw [if_neg (by simpa using hd)]
  by_cases c1 : PX (List.replicate r h) o = []
  · by_cases c2 : PW (List.replicate r h) o = []
    · rw [if_neg (by simpa using c1),if_neg (by simpa using c2),decide_eq_true c1,decide_eq_true c2]; exact ⟨rfl,rfl⟩
    · rw [if_neg (by simpa using c1),if_pos c2,decide_eq_true c1,decide_eq_false c2]; exact ⟨rfl,rfl⟩
  · have c2 : ¬ PW (List.replicate r h) o = [] := fun q => c1 (hWX q)
    rw [if_pos c1,decide_eq_false c1,decide_eq_false c2]; exact ⟨rfl,rfl⟩
theorem alike_in (ns : List Int) (hl : ns.length = 26) (hb : ∀ n ∈ ns,0 ≤ n ∧ n < 256) (os : List Int) (hol : os.length = 6) (hob : ∀ n ∈ os,0 ≤ n ∧ n < 256) :
    clF LP n_law07_ShareAlike [.agg (ns.map (LV.int .u8)),.agg (os.map (LV.int .u8))] [] = some (.P,.bool true,[]) := by
  obtain ⟨w,rfl,hwb⟩ := bytes_nat ns hb
  obtain ⟨cs,rfl,hcb⟩ := bytes_nat os hob
  rw [ci_ln] at hl hol
  show clF LP n_law07_ShareAlike [.agg (bys w),.agg (bys cs)] [] = some (.P,.bool true,[])
  obtain ⟨b,m1,hmade,hm1,hbge,hk1⟩ := made_o w hl hwb 4 6 20 (by omega) (by omega) (by omega) [⟨bys w,true⟩,⟨bys cs,true⟩]
  have hr := Nat.mod_lt (w.getD 0 0) (show 0 < 4 by omega)
  have hn := Nat.mod_lt (w.getD 1 0) (show 0 < 6 + 1 by omega)
  have hbl : (bys w).length = 26 := by simp [hl]
  have hbl2 : (bys cs).length = 6 := by simp [hol]
  have htk : (bys w).take 26 = bys w := List.take_of_length_le (by omega)
  have hps : LV.pures (bys w) = true := pures_int _ _
  have hps2 : LV.pures (bys cs) = true := pures_int _ _
  generalize hn' : w.getD 1 0 % (6 + 1) = n at *
  generalize hr' : 1 + w.getD 0 0 % 4 = r at *
  have hr1 : 1 ≤ r := by omega
  have hr4 : r ≤ 4 := by omega
  have hrl := rowsM_len w 20 n r
  have hRne : rowsM w 20 n r ≠ [] := fun e => by rw [e] at hrl; simp at hrl; omega
  have hhd : (rowsM w 20 n r).headD [] = rowL (cut6 w 0) 20 n := by
    obtain ⟨q,rfl⟩ : ∃ q,r = q + 1 := ⟨r - 1,by omega⟩
    simp [rowsM,List.range_succ_eq_map]
  have hH : Ok20 (rowL (cut6 w 0) 20 n) := rowL_20 _ _ _ (by omega)
  have hHl := rowL_len (cut6 w 0) 20 n
  have h0 := alike_L0 (rowsM w 20 n r) hRne (by omega) b (.ptr 1 0 6) r 0 m1 (by omega) (by rw [show akR (rowsM w 20 n r) 0 = rowsM w 20 n r from rfl]; exact hm1)
  have hak : akR (rowsM w 20 n r) (rowsM w 20 n r).length = List.replicate r (rowL (cut6 w 0) 20 n) := by
    rw [akR,hhd,List.drop_eq_nil_of_le (Nat.le_refl _),hrl,List.append_nil]
  rw [hak,hrl] at h0
  generalize rowL (cut6 w 0) 20 n = h at *
  have hbm := (List.getElem?_eq_some_iff.1 hm1).1
  obtain ⟨P,hP⟩ : ∃ P,P = m1.set b ⟨(List.replicate r h).map RL,true⟩ := ⟨_,rfl⟩
  rw [← hP] at h0
  have hPb : P[b]? = some ⟨(List.replicate r h).map RL,true⟩ := by rw [hP,List.getElem?_set_self hbm]
  have hbge2 : 2 ≤ b := hbge
  have hP1 : P[1]? = some ⟨bys cs,true⟩ := by
    rw [hP,List.getElem?_set_ne (by omega),hk1 1 (by simp)]; rfl
  have hbP := (List.getElem?_eq_some_iff.1 hPb).1
  have h1 := alike_L1 cs hol hcb P hP1 b r ⟨by omega,hr4⟩ n (by omega) n 0 (by omega)
  have e0 : owL cs r 0 = [] := rfl
  rw [e0,GV_nil,GM_nil,List.append_nil] at h1
  have hol' := owL_len cs r n
  have hown := owL_lt cs r n (by omega)
  generalize owL cs r n = o at *
  obtain ⟨M0,hM0⟩ : ∃ M,M = P ++ GM o := ⟨_,rfl⟩
  rw [← hM0] at h1
  have hM0b : M0[b]? = some ⟨(List.replicate r h).map RL,true⟩ := by rw [hM0,List.getElem?_append_left hbP]; exact hPb
  have hM0o : o ≠ [] → M0[P.length]? = some ⟨ints o,true⟩ := fun c => by rw [hM0,GM,if_neg c]; simp
  have hM0l : P.length ≤ M0.length := by rw [hM0]; simp
  have hM0l2 : o ≠ [] → P.length < M0.length := fun c => (List.getElem?_eq_some_iff.1 (hM0o c)).1
  have hz : zerosL [LV.int .i64 0] (r * 1) = ints (smL h o r 0) ∧ zerosL [LV.int .i64 0] (r * 1) = ints (tpL h o r 0) := by
    have : ∀ q,zerosL [LV.int .i64 0] q = ints (List.replicate q 0) := by
      intro q
      apply List.ext_getElem?
      intro i
      by_cases c : i < q
      · simp [zerosL,c,Nat.mod_one]
      · rw [List.getElem?_eq_none (by simp [zerosL]; omega),List.getElem?_eq_none (by simp; omega)]
    rw [this,Nat.mul_one]
    have e1 : smL h o r 0 = List.replicate r 0 := by
      apply List.ext_getElem?
      intro i
      by_cases c : i < r
      · rw [smL_at _ _ _ _ _ c]; simp [c,wg]
      · rw [List.getElem?_eq_none (by rw [smL_len]; omega),List.getElem?_eq_none (by simp; omega)]
    have e2 : tpL h o r 0 = List.replicate r 0 := by
      apply List.ext_getElem?
      intro i
      by_cases c : i < r
      · rw [tpL_at _ _ _ _ _ c]; simp [c,wg]
      · rw [List.getElem?_eq_none (by rw [tpL_len]; omega),List.getElem?_eq_none (by simp; omega)]
    rw [e1,e2]; exact ⟨rfl,rfl⟩
  obtain ⟨M2,hM2⟩ : ∃ M,M = M0 ++ [⟨ints (smL h o r 0),true⟩] ++ [⟨ints (tpL h o r 0),true⟩] := ⟨_,rfl⟩
  have hM2k : ∀ i,i < M0.length → M2[i]? = M0[i]? := fun i hi => by rw [hM2,List.getElem?_append_left (by simp; omega),List.getElem?_append_left hi]
  have hM2l : M2.length = M0.length + 2 := by rw [hM2]; simp
  have hM2q : M2[M0.length]? = some ⟨ints (smL h o r 0),true⟩ := by rw [hM2,List.getElem?_append_left (by simp)]; simp
  have hM2t : M2[M0.length + 1]? = some ⟨ints (tpL h o r 0),true⟩ := by rw [hM2,List.getElem?_append_right (by simp)]; simp
  have h2 := alike_L2 h o hH (by omega) r ⟨by omega,hr4⟩ (by omega) hown b P.length M0.length (by omega) hM0l2 ((List.replicate r h).map RL) (by simp) (by rw [List.getElem?_map,List.getElem?_replicate,if_pos (by omega)]; rfl) h.length 0 M2 (by omega) hM2l (by rw [hM2k b (by omega)]; exact hM0b) (fun c => by rw [hM2k _ (hM0l2 c)]; exact hM0o c) hM2q hM2t
  obtain ⟨M3,hM3⟩ : ∃ M,M = (M2.set M0.length ⟨ints (smL h o r h.length),true⟩).set (M0.length + 1) ⟨ints (tpL h o r h.length),true⟩ := ⟨_,rfl⟩
  rw [← hM3] at h2
  have hM3q : M3[M0.length]? = some ⟨ints (smL h o r h.length),true⟩ := by rw [hM3,List.getElem?_set_ne (by omega),List.getElem?_set_self (by omega)]
  have hM3t : M3[M0.length + 1]? = some ⟨ints (tpL h o r h.length),true⟩ := by rw [hM3,List.getElem?_set_self (by simp; omega)]
  have hM3b : M3[b]? = some ⟨(List.replicate r h).map RL,true⟩ := by rw [hM3,List.getElem?_set_ne (by omega),List.getElem?_set_ne (by omega),hM2k b (by omega)]; exact hM0b
  have hM3o : o ≠ [] → M3[P.length]? = some ⟨ints o,true⟩ := fun c => by
    have := hM0l2 c
    rw [hM3,List.getElem?_set_ne (by omega),List.getElem?_set_ne (by omega),hM2k _ this]; exact hM0o c
  have hbd : ∀ j,0 ≤ (smL h o r h.length).getD j 0 ∧ (smL h o r h.length).getD j 0 ≤ 120 ∧ 0 ≤ (tpL h o r h.length).getD j 0 ∧ (tpL h o r h.length).getD j 0 ≤ 20 := fun j => by
    by_cases c : j < r
    · have := sm_bd hH (by omega) o (j : Int) h.length
      rw [List.getD_eq_getElem?_getD,List.getD_eq_getElem?_getD,smL_at _ _ _ _ _ c,tpL_at _ _ _ _ _ c,Option.getD_some,Option.getD_some]
      exact this
    · rw [List.getD_eq_getElem?_getD,List.getD_eq_getElem?_getD,List.getElem?_eq_none (by rw [smL_len]; omega),List.getElem?_eq_none (by rw [tpL_len]; omega)]
      simp
  have h4 := alike_L4 (smL h o r h.length) (tpL h o r h.length) r hr4 (smL_len _ _ _ _) (tpL_len _ _ _ _) hbd (SLv b r) (GV P.length o) M0.length M3 hM3q hM3t r 0 true true (by omega)
  rw [Bool.true_and,Bool.true_and] at h4
  -- the call
  have hvals : vals (List.replicate r (rowR h)) = List.replicate r h := by simp [vals,rowR]
  have hlv : (List.replicate r (rowR h)).map Row.lv = (List.replicate r h).map RL := by simp [rowR]
  have D : LOk (List.replicate r (rowR h)) o := ⟨by simp; omega,by simp; omega,fun i hi => by simp [rowR]; omega,fun i hi => by simpa [rowR] using hH,by omega,fun x hx => by
    have := hown x hx
    simp; omega⟩
  have hchk : chkV (List.replicate r h) = 0 := by
    unfold chkV
    have hg0 : (List.replicate r h).getD 0 [] = h := by rw [List.getD_eq_getElem?_getD,List.getElem?_replicate,if_pos (by omega)]; rfl
    rw [List.length_replicate,if_neg (by omega),if_neg (by rw [hg0]; omega),hg0]
    have key : ∀ vs : List (List Int),(∀ v ∈ vs,v = h) → rowsChk h.length vs = 0 := by
      intro vs
      induction vs with
      | nil => intro _; rfl
      | cons v vs ih =>
        intro hv
        obtain rfl := hv v (by simp)
        rw [rowsChk,if_neg (by omega),if_neg,ih fun x hx => hv x (by simp [hx])]
        rw [Bool.not_eq_true,List.any_eq_false]
        intro x hx
        have := hH x hx
        simp [inB]; omega
    exact key _ fun v hv => (List.mem_replicate.1 hv).2
  have hd : divE (List.replicate r h) o = 0 := by
    unfold divE
    have hg0 : (List.replicate r h).getD 0 [] = h := by rw [List.getD_eq_getElem?_getD,List.getElem?_replicate,if_pos (by omega)]; rfl
    rw [hchk,if_neg (by simp),if_neg (by rw [hg0]; omega),if_neg]
    rw [Bool.not_eq_true,List.any_eq_false]
    intro x hx
    have := hown x hx
    simp [inB]; omega
  obtain ⟨pl1,pl2⟩ := alike_plain h o hH (by omega) r (by omega) hd
  have hpr : LV.pures ((List.replicate r h).map RL) = true := rl_pures _
  have hv1 : ∀ k,view (k + 3) M3 (SLv b r) = some (VL false false 1 (List.replicate r (rowR h)),[b]) := fun k => by
    have := view_slc k M3 b 0 r r 1 r 1 ((List.replicate r h).map RL) true hM3b (by rw [List.drop_zero,List.take_of_length_le (by simp)]; exact hpr) (by simp) (by omega) (Nat.le_refl _)
    rw [List.drop_zero,List.take_of_length_le (by simp)] at this
    rw [this]
    show some (LV.lst false _ 1 r ((List.replicate r h).map RL),[b]) = some (LV.lst false false 1 (List.replicate r (rowR h)).length ((List.replicate r (rowR h)).map Row.lv),[b])
    rw [hlv,List.length_replicate]; rfl
  have hv2 := fun k => G.view_gv k M3 P.length o true hM3o
  have hfair : clF LP n_share_Fair [SLv b r,GV P.length o] M3 = some (.P,.tup [.int .i64 (fairV (List.replicate r h) o),.int .i64 0],M3) := by
    have hI : In (List.replicate r (rowR h)) (decide (o = [])) (bif decide (o = []) then 0 else 1) o := in_lok D (by by_cases c : o = [] <;> simp [c]) (by simp)
    have hf := fairP_c false false (decide (o = [])) (decide (o = [])) 1 (bif decide (o = []) then 0 else 1) (List.replicate r (rowR h)) o hI []
    rw [hvals,hd] at hf
    have hRL : RL o = IL (decide (o = [])) (decide (o = [])) (bif decide (o = []) then 0 else 1) o := rfl
    rw [← hRL] at hf
    exact call_view lp_share_Fair rfl (views_ab hv1 hv2 (by simp [LV.pures,LV.pure])) (by simp only [LV.pures,LV.pure,pures_row,RL,pures_int,Bool.and_self]) hf rfl
  refine call_P lp_law07_ShareAlike rfl (by simp only [LV.pures,LV.pure,hps,hps2,Bool.and_self]) (m1 := M3) ?_ rfl []
  have e4 : ((4 : Nat) : Int) = 4 := rfl
  have e6 : ((6 : Nat) : Int) = 6 := rfl
  have e20 : ((20 : Nat) : Int) = 20 := rfl
  rw [e4,e6,e20] at hmade
  obtain ⟨hz1,hz2⟩ := hz
  have hz1 : zerosL [LV.int .i64 0] r = ints (smL h o r 0) := by rw [← hz1,Nat.mul_one]
  have hz2' : ints (smL h o r 0) = ints (tpL h o r 0) := by rw [← hz2,← hz1,Nat.mul_one]
  have hM2' : M0 ++ [⟨ints (smL h o r 0),true⟩] ++ [⟨ints (smL h o r 0),true⟩] = M2 := by rw [hM2,hz2']
  have hlM : ∀ x : LBlk,(M0 ++ [x]).length = M0.length + 1 := fun x => by simp
  have hlo : lenL (GV P.length o) = some h.length := by
    have : o.length = h.length := by omega
    unfold GV
    by_cases c : o = []
    · rw [if_pos c]; rw [c] at this; simp only [lenL]; rw [← this]; rfl
    · rw [if_neg c]; simp only [lenL]; rw [this]
  have hof : ofAVs [.int .i64 0] = [LV.int .i64 0] := rfl
  have hrm : r * 8 ≤ roomMost := by unfold roomMost; omega
  have hrm2 : r ≤ roomMost := by unfold roomMost; omega
  have hC0 : ((List.replicate r h).map RL)[0]? = some (RL h) := by rw [List.getElem?_map,List.getElem?_replicate,if_pos (by omega)]; rfl
  have hCl : ((List.replicate r h).map RL).length = r := by simp
  have hlh : lenL (RL h) = some h.length := rfl
  have hr0 : 0 < r := by omega
  rw [← hHl] at h1
  simp only [Int.natCast_zero] at h0 h1 h2 h4
  have hlS : lenL (SLz M0.length r) = some r := rfl
  have hlV : lenL (SLv b r) = some r := rfl
  have hgt : ∀ b : Bool,(b == b) = true := fun b => by cases b <;> rfl
  generalize ((List.range' 0 r).all fun i => (List.range' 0 r).all (wtB (smL h o r h.length) (tpL h o r h.length) i)) = A at *
  generalize ((List.range' 0 r).all fun i => (List.range' 0 r).all (evB (smL h o r h.length) i)) = B at *
  generalize fairV (List.replicate r h) o = fv at *
  generalize (List.replicate r h).map RL = CC at *
  generalize ints (smL h o r 0) = Z0 at *
  generalize GV P.length o = gv at *
  generalize RL h = rh at *
  generalize bys w = WB at *
  generalize bys cs = CB at *
  subst pl1
  subst pl2
  simp only [law07_ShareAlike,law07_ShareAlike.B,law07_ShareAlike.B.R0,law07_ShareAlike.B.R1]
  repeat (rw [exF_seq]; try simp (maxSteps := 1000000) only [beqT,beqF,exF_seq,exF_region,exF_block,exF_cond,exF_ret,exF_exit,exF_skip,runL,wantL,stepL,evL,evC,LEnv.at,putL,loadFine,loadL,cellsAt,Trk.putNew,Trk.up,Trk.touch,Trk.gives,Trk.calm,Trk.hit,opdsOf,Trk.fresh,LEnv.keep,LEnv.ofFrom,List.map_cons,List.map_nil,nbeq,nble,nblt,ofAV,ofAVs,bin_add,bin_sub,bin_mul,bin_eql,bin_neq,bin_lss,bin_leq,bin_gtr,bin_geq,natL_nat,natL_zero,natL_one,natL_two,Nat.zero_mul,List.any_cons,List.any_nil,Bool.or_false,Bool.false_or,Bool.true_or,Bool.or_true,Bool.and_true,Bool.true_and,Bool.and_false,Bool.false_and,Bool.not_true,Bool.not_false,Nat.reduceBEq,Nat.reduceEqDiff,decide_true,decide_false,cond_true,cond_false,List.filter_nil,List.filter_cons,Nat.reduceAdd,Nat.reduceLeDiff,reduceCtorEq,List.length_nil,List.length_cons,Nat.mul_one,if_true,if_false,Bool.false_eq_true,eq_self,and_true,true_and,retL,resultsL,resAllL,resOfL,List.append_nil,List.nil_append,List.cons_append,true_or,or_true,false_or,or_false,false_and,and_false,not_true_eq_false,not_false_eq_true,ne_eq,unL,trim_nil,views_pures,LV.pures,LV.pure,freeze,Nat.reduceDiv,Int.reduceEq,Int.reduceLT,Int.reduceLE,Int.natCast_zero,LV.cells,allocL,List.getElem?_cons_zero,List.getElem?_cons_succ,storeL,spliceL,List.take_zero,List.take_succ_cons,List.drop_zero,List.drop_succ_cons,List.drop_nil,List.take_nil,Nat.le_refl,Nat.reduceMul,List.set_cons_zero,List.set_cons_succ,LV.scalar,List.all_cons,List.all_nil,Nat.lt_add_one,Nat.zero_lt_one,Nat.reduceLT,Nat.lt_irrefl,fillL,List.length_append,foldIntL,kind_beq,pures_int,solids_int,plains_int,unders_int,scalars_int,hbl,hbl2,htk,hmade,h0,h1,hPb,hCl,hC0,hlh,hr0,Nat.zero_add,hrm,hrm2,hof,hz1,hM2',hlM,hlo,h2,h4,hlS,hlV,hfair,works_c,BEq.rfl,Bool.false_xor,hgt])
end Go.Am.Share
set_option linter.unusedVariables false
namespace Go.Am
variable [Glo]
open Go.RowKit
def Placed (ρ : PM) (b : Nat) (ps : List Place) : Prop := ∀ (i : Nat) (p : Place),ps[i]? = some p → ρ (b + i) = some p
def Shows (s : Sit) (b : Nat) (bl : List (List AV)) : Prop := ∀ (i : Nat) (cs : List AV),bl[i]? = some cs → s.A (b + i) ∧ s.am.look (b + i) = some ⟨cs,false⟩
def ArgOk (w : World) (v : Value) (lv : LV) : Prop :=
  ∃ (bl : Nat → List (List AV)) (ps : List Place) (av : Nat → AV),(∀ b,(bl b).length = ps.length) ∧
    (∀ (ρ : PM) (b : Nat),Placed ρ b ps → VR ρ (av b) v ∧ ∀ (i : Nat) (cs : List AV) (p : Place),(bl b)[i]? = some cs → ps[i]? = some p → p.map = false ∧ CellsAt ρ w cs p) ∧
    (∀ (s : Sit) (b : Nat),Shows s b (bl b) → LR s lv (av b))
inductive ArgsOk (w : World) : List Value → List LV → Prop
  | nil : ArgsOk w [] []
  | cons {v : Value} {lv : LV} {vs : List Value} {lvs : List LV} (h : ArgOk w v lv) (hr : ArgsOk w vs lvs) : ArgsOk w (v :: vs) (lv :: lvs)
omit [Glo] in
theorem append_get {α : Type} (a b : List α) (i : Nat) (x : α) (h : (a ++ b)[i]? = some x) : (i < a.length ∧ a[i]? = some x) ∨ (a.length ≤ i ∧ b[i - a.length]? = some x) := by
  by_cases hi : i < a.length
  · rw [List.getElem?_append_left hi] at h; exact .inl ⟨hi,h⟩
  · rw [List.getElem?_append_right (by omega)] at h; exact .inr ⟨by omega,h⟩
omit [Glo] in
theorem args_all {w : World} : ∀ {vs : List Value} {lvs : List LV},ArgsOk w vs lvs → ∃ (bl : Nat → List (List AV)) (ps : List Place) (avs : Nat → List AV),(∀ b,(bl b).length = ps.length) ∧
    (∀ (ρ : PM) (b : Nat),Placed ρ b ps → VRs ρ (avs b) vs ∧ ∀ (i : Nat) (cs : List AV) (p : Place),(bl b)[i]? = some cs → ps[i]? = some p → p.map = false ∧ CellsAt ρ w cs p) ∧
    (∀ (s : Sit) (b : Nat),Shows s b (bl b) → LRs s lvs (avs b))
  | _,_,.nil => ⟨fun _ => [],[],fun _ => [],fun _ => rfl,fun ρ b _ => ⟨.nil,fun i cs p h => by simp at h⟩,fun s b _ => .nil⟩
  | _,_,.cons h hr => by
    obtain ⟨bl1,ps1,av1,a1,a2,a3⟩ := h
    obtain ⟨bl2,ps2,av2,b1,b2,b3⟩ := args_all hr
    refine ⟨fun b => bl1 b ++ bl2 (b + ps1.length),ps1 ++ ps2,fun b => av1 b :: av2 (b + ps1.length),fun b => by simp [a1,b1],fun ρ b hp => ?_,fun s b hs => ?_⟩
    · have hp1 : Placed ρ b ps1 := fun i p h => hp i p (by rw [List.getElem?_append_left (List.getElem?_eq_some_iff.1 h).1]; exact h)
      have hp2 : Placed ρ (b + ps1.length) ps2 := fun i p h => by
        have := hp (ps1.length + i) p (by rw [List.getElem?_append_right (by omega)]; simpa using h)
        rw [Nat.add_assoc]; exact this
      obtain ⟨c1,c2⟩ := a2 ρ b hp1
      obtain ⟨d1,d2⟩ := b2 ρ _ hp2
      refine ⟨.cons c1 d1,fun i cs p hcs hpp => ?_⟩
      rcases append_get _ _ _ _ hcs with ⟨e1,e2⟩ | ⟨e1,e2⟩
      · rw [a1] at e1
        rw [List.getElem?_append_left e1] at hpp
        exact c2 i cs p e2 hpp
      · rw [a1] at e1 e2
        rw [List.getElem?_append_right e1] at hpp
        exact d2 _ cs p e2 hpp
    · refine .cons (a3 s b fun i cs h => hs i cs (by rw [List.getElem?_append_left (List.getElem?_eq_some_iff.1 h).1]; exact h)) (b3 s _ fun i cs h => ?_)
      have := hs (ps1.length + i) cs (by rw [List.getElem?_append_right (by rw [a1]; omega)]; rw [a1]; simpa using h)
      rw [Nat.add_assoc]; exact this
def gPlaces (n : Nat) : List Place := (List.range n).map fun g => ⟨g,0,0,false⟩
omit [Glo] in
theorem gPlaces_get {n g : Nat} {p : Place} (h : (gPlaces n)[g]? = some p) : p = ⟨g,0,0,false⟩ := by
  unfold gPlaces at h
  rw [List.getElem?_map] at h
  obtain ⟨x,hx,rfl⟩ := Option.map_eq_some_iff.1 h
  have hg := (List.getElem?_eq_some_iff.1 hx).1
  simp at hg
  rw [List.getElem?_range hg] at hx
  cases hx; rfl
theorem law_glob {P : Program} {C : Prog} {LP : LProg} (hC : ProgOk C P) (hmix : P.follows .mixedOrders = true) (hL : ProgL LP C) {f : Nat} {lvs : List LV} {md : Mode} {m' : LMem} (h : clF LP f lvs [] = some (md,.bool true,m'))
    {w : World} {cargs : Array Value} (ha : ArgsOk w cargs.toList lvs) (gb : List (List AV)) (hgb : gb.length = P.globals.size) (hT : ∀ g l,Glo.tab g = some l → gb[g]? = some l) (hcell : ∀ (ρ : PM) (g : Nat) (cs : List AV),gb[g]? = some cs → CellsAt ρ w cs ⟨g,0,0,false⟩) :
    Calls P f cargs w fun e w' => e = .returned (.bool true) ∧ Below w.heap.size w w' := by
  obtain ⟨bl,ps,avs,h1,h2,h3⟩ := args_all ha
  obtain ⟨n,hn⟩ := clF_some.1 h
  generalize hN : gb.length = N at hgb
  generalize hall : gb ++ bl N = all
  have hget : ∀ (i : Nat) (cs : List AV),(bl N)[i]? = some cs → all[N + i]? = some cs := fun i cs hi => by
    rw [← hall,List.getElem?_append_right (by omega),hN,Nat.add_sub_cancel_left]; exact hi
  have hs : Shows ⟨[],memOf all,fun _ => 0,fun b => b < all.length⟩ N (bl N) := fun i cs hi =>
    ⟨(List.getElem?_eq_some_iff.1 (hget i cs hi)).1,by show (memOf all).look (N + i) = _; rw [memOf_look,hget i cs hi]; rfl⟩
  have hrel : Rel2 ⟨[],memOf all,fun _ => 0,fun b => b < all.length⟩ := by
    refine ⟨fun i b hb => by simp at hb,fun i j b b' hb => by simp at hb,fun b hb => ?_,fun b ab hb => ?_,fun g l hg => ?_⟩
    · have hb : b < all.length := hb
      exact ⟨⟨all[b],false⟩,by show (memOf all).look b = _; rw [memOf_look,List.getElem?_eq_getElem hb]; rfl⟩
    · have hb : (memOf all).look b = some ab := hb
      show b < (memOf all).next
      rw [memOf_next]
      rw [memOf_look] at hb
      obtain ⟨x,hx,_⟩ := Option.map_eq_some_iff.1 hb
      exact (List.getElem?_eq_some_iff.1 hx).1
    · have e : all[g]? = some l := by
        have := hT g l hg
        rw [← hall,List.getElem?_append_left (List.getElem?_eq_some_iff.1 this).1]; exact this
      exact ⟨(List.getElem?_eq_some_iff.1 e).1,by show (memOf all).look g = _; rw [memOf_look,e]; rfl⟩
  obtain ⟨av,am',h4,t,_,_,_,_,h5,_⟩ := callL_sound hL n f lvs [] md (.bool true) m' hn _ (avs N) rfl hrel (h3 _ N hs)
  cases h5
  generalize hpl : gPlaces N ++ ps = pl
  have hgl : (gPlaces N).length = N := by simp [gPlaces]
  have hplaced : Placed (placesOf pl) N ps := fun i p hp => by
    show pl[N + i]? = some p
    rw [← hpl,List.getElem?_append_right (by omega),hgl,Nat.add_sub_cancel_left]; exact hp
  obtain ⟨h6,h7⟩ := h2 (placesOf pl) N hplaced
  refine law_calls hC hmix (l := all) (ps := pl) h4 (by rw [← hall,← hpl,List.length_append,List.length_append,h1,hgl,hN]) (fun i cs p hcs hp => ?_) h6 fun g hg => ?_
  · rw [← hall] at hcs
    rw [← hpl] at hp
    rcases append_get _ _ _ _ hcs with ⟨e1,e2⟩ | ⟨e1,e2⟩
    · rw [List.getElem?_append_left (by omega)] at hp
      rw [gPlaces_get hp]
      exact ⟨rfl,hcell _ i cs e2⟩
    · rw [List.getElem?_append_right (by omega),hgl] at hp
      rw [hN] at e2
      exact h7 _ cs p e2 hp
  · have hg : g < N := by omega
    refine ⟨⟨g,0,0,false⟩,?_,rfl,rfl,rfl⟩
    show pl[g]? = _
    rw [← hpl,List.getElem?_append_left (by omega)]
    simp [gPlaces,hg]
theorem law_list {P : Program} {C : Prog} {LP : LProg} (hC : ProgOk C P) (hmix : P.follows .mixedOrders = true) (hL : ProgL LP C) {f : Nat} {lvs : List LV} {md : Mode} {m' : LMem} (h : clF LP f lvs [] = some (md,.bool true,m')) (hG : P.globals.size = 0) (hT : ∀ g,Glo.tab g = none)
    {w : World} {cargs : Array Value} (ha : ArgsOk w cargs.toList lvs) : Calls P f cargs w fun e w' => e = .returned (.bool true) ∧ Below w.heap.size w w' :=
  law_glob hC hmix hL h ha [] (by simp [hG]) (fun g l hg => by rw [hT g] at hg; cases hg) (fun ρ g cs hg => by simp at hg)
end Go.Am
set_option linter.unusedVariables false
namespace Go.Am
variable [Glo]
open Go.ChangeShapes Go.RowKit Go.Deep
end Go.Am
set_option linter.unusedVariables false
namespace Go.Am
variable [Glo]
open Go.RowKit
omit [Glo] in
theorem trodAll_below {H : Type} {enc : TypeId × Value → H} {P : Program} {W W' : World} (hl : laidOutB P = true) (hb : Below W.heap.size W W') : ∀ {ts : List TypeId} {vs : List Value} {ds : List (DataW H)} {ps : List MemPlace},(ts.all fun t => P.readableRec t && decide (t < P.types.size)) = true →
    DataW.TrodAll enc P W 0 (fun _ => true) true ts vs ds ps → (∀ x ∈ ps,x.block < W.heap.size) → DataW.TrodAll enc P W' 0 (fun b => decide (b < W.heap.size)) true ts vs ds ps
  | [],[],[],_,_,h,_ => h
  | t :: ts,v :: vs,d :: ds,ps,hr,⟨p,q,h1,h2,e⟩,hlt => by
    simp only [List.all_cons,Bool.and_eq_true,decide_eq_true_eq] at hr
    subst e
    exact ⟨p,q,Below.trod hl hr.1.1 hr.1.2 h1 hb (fun x hx => hlt x (List.mem_append_left _ hx)),trodAll_below hl hb hr.2 h2 (fun x hx => hlt x (List.mem_append_right _ hx)),rfl⟩
end Go.Am
set_option linter.unusedVariables false
namespace Go.Am
variable [Glo]
open Go.RowKit
def sumPc : Nat → List (Nat × Nat) → Option Nat
  | off,[] => some off
  | off,(o,k) :: r => cond (Nat.beq o off) (sumPc (off + k) r) none
def pcsF (P : Program) (g : TypeId → Option Nat) : List Field → Option (List (Nat × Nat))
  | [] => some []
  | f :: r => match g f.type with
    | some k => match pcsF P g r with
      | some l => cond (Nat.beq (P.cellsOf f.type) k) (some ((f.offset,k) :: l)) none
      | none => none
    | none => none
def u8T (P : Program) : Nat → TypeId → Option Nat
  | 0,_ => none
  | n + 1,t => match P.underlying t with
    | some (.int .u8) => some 1
    | some (.array m e) => match u8T P n e with
      | some k => cond (Nat.beq (P.cellsOf e) k && Nat.beq (P.cellsOf t) (m * k)) (some (m * k)) none
      | none => none
    | some (.struct fs) => match pcsF P (u8T P n) fs.toList with
      | some l => match sumPc 0 l with
        | some k => cond (Nat.beq (P.cellsOf t) k) (some k) none
        | none => none
      | none => none
    | _ => none
def U8s (cs : List Value) : Prop := ∀ (i : Nat) (v : Value),cs[i]? = some v → ∃ n : Int,v = .int .u8 n ∧ (Lit.int .u8 n).wf = true
omit [Glo] in
theorem sumPc_in : ∀ (l : List (Nat × Nat)) (off tot : Nat),sumPc off l = some tot → ∀ i,off ≤ i → i < tot → ∃ p ∈ l,p.1 ≤ i ∧ i < p.1 + p.2
  | [],off,tot,h,i,h1,h2 => by simp only [sumPc,Option.some.injEq] at h; omega
  | (o, k) :: r,off,tot,h,i,h1,h2 => by
    simp only [sumPc] at h
    cases c : Nat.beq o off <;> rw [c] at h
    · cases h
    · have e : o = off := by simpa using c
      subst e
      by_cases hi : i < o + k
      · exact ⟨(o,k),by simp,h1,hi⟩
      · obtain ⟨p,hp,h3⟩ := sumPc_in r _ _ h i (by omega) h2
        exact ⟨p,by simp [hp],h3⟩
omit [Glo] in
theorem pcsF_in {P : Program} {g : TypeId → Option Nat} : ∀ (fs : List Field) (l : List (Nat × Nat)),pcsF P g fs = some l → ∀ p ∈ l,∃ (i : Nat) (f : Field),fs[i]? = some f ∧ f.offset = p.1 ∧ g f.type = some p.2 ∧ P.cellsOf f.type = p.2
  | [],l,h,p,hp => by simp only [pcsF,Option.some.injEq] at h; subst h; cases hp
  | f :: r, l,h,p,hp => by
    simp only [pcsF] at h
    split at h
    · rename_i k hk
      split at h
      · rename_i l' hl'
        cases c : Nat.beq (P.cellsOf f.type) k <;> rw [c] at h
        · cases h
        · simp only [cond_true,Option.some.injEq] at h
          subst h
          rcases List.mem_cons.1 hp with rfl | hp
          · exact ⟨0,f,rfl,rfl,hk,by simpa using c⟩
          · obtain ⟨i,f',h1,h2⟩ := pcsF_in r l' hl' p hp
            exact ⟨i + 1,f',by simpa using h1,h2⟩
      · cases h
    · cases h
section
variable {H : Type} {enc : TypeId × Value → H} {P : Program} {w : World} {base : Nat} {sp : Nat → Bool} {held : Bool}
omit [Glo] in
theorem u8T_ok : ∀ (n : Nat) (t : TypeId) (fuel : Nat) (cs : List Value) (x : DataW H × List MemPlace) (k : Nat),u8T P n t = some k → DataW.trod enc P w base sp held fuel t cs = some x → U8s cs ∧ cs.length = k
  | 0,_,_,_,_,_,h,_ => by cases h
  | n + 1,t,fuel,cs,x,k,h,hx => by
    simp only [u8T] at h
    split at h
    · rename_i ht
      cases h
      obtain ⟨a,rfl,_,hw⟩ := DataW.trod_int ht hx
      refine ⟨fun i v hv => ?_,rfl⟩
      match i with
      | 0 => simp at hv; subst hv; exact ⟨a,rfl,hw⟩
      | i + 1 => simp at hv
    · rename_i m e ht
      split at h
      · rename_i k' hk'
        cases c : (Nat.beq (P.cellsOf e) k' && Nat.beq (P.cellsOf t) (m * k')) <;> rw [c] at h
        · cases h
        · simp only [cond_true,Option.some.injEq] at h
          subst h
          simp only [Bool.and_eq_true] at c
          have c1 : P.cellsOf e = k' := by simpa using c.1
          have c2 : P.cellsOf t = m * k' := by simpa using c.2
          obtain ⟨xs,m',_,_,hl,hxl,hf⟩ := DataW.trod_array ht hx
          rw [c2] at hl
          refine ⟨fun i v hv => ?_,hl⟩
          have hi : i < m * k' := by rw [← hl]; exact (List.getElem?_eq_some_iff.1 hv).1
          have hk0 : 0 < k' := by
            rcases Nat.eq_zero_or_pos k' with e0 | e0
            · rw [e0] at hi; simp at hi
            · exact e0
          have h1 : i / k' < m := (Nat.div_lt_iff_lt_mul hk0).2 hi
          have h2 : i % k' < k' := Nat.mod_lt _ hk0
          have h3 : (i / k') * k' + i % k' = i := by rw [Nat.mul_comm]; exact Nat.div_add_mod i k'
          have h4 := hf (i / k') h1
          rw [c1] at h4
          obtain ⟨y,hy⟩ : ∃ y,xs[i / k']? = some y := ⟨xs[i / k']'(by omega),List.getElem?_eq_getElem (by omega)⟩
          rw [hy] at h4
          obtain ⟨h5,_⟩ := u8T_ok n e m' _ y k' hk' h4
          refine h5 (i % k') v ?_
          rw [List.getElem?_take,if_pos h2,List.getElem?_drop,h3]
          exact hv
      · cases h
    · rename_i fs ht
      split at h
      · rename_i l hl'
        split at h
        · rename_i k' hk'
          cases c : Nat.beq (P.cellsOf t) k' <;> rw [c] at h
          · cases h
          · simp only [cond_true,Option.some.injEq] at h
            subst h
            have c2 : P.cellsOf t = k' := by simpa using c
            obtain ⟨xs,m',_,_,hl,hxl,hf⟩ := DataW.trod_struct ht hx
            rw [c2] at hl
            refine ⟨fun i v hv => ?_,hl⟩
            have hi : i < k' := by rw [← hl]; exact (List.getElem?_eq_some_iff.1 hv).1
            obtain ⟨p,hp,p1,p2⟩ := sumPc_in l 0 k' hk' i (Nat.zero_le _) hi
            obtain ⟨j,f,f1,f2,f3,f4⟩ := pcsF_in _ _ hl' p hp
            have f1' : fs[j]? = some f := by simpa using f1
            have hj : j < fs.size := (Array.getElem?_eq_some_iff.1 f1').1
            have h4 := hf j f f1'
            rw [f4,f2] at h4
            obtain ⟨y,hy⟩ : ∃ y,xs[j]? = some y := ⟨xs[j]'(by omega),List.getElem?_eq_getElem (by omega)⟩
            rw [hy] at h4
            obtain ⟨h5,_⟩ := u8T_ok n f.type m' _ y p.2 f3 h4
            refine h5 (i - p.1) v ?_
            rw [List.getElem?_take,if_pos (by omega),List.getElem?_drop,show p.1 + (i - p.1) = i by omega]
            exact hv
        · cases h
      · cases h
    · cases h
omit [Glo] in
theorem u8s_list : ∀ {cs : List Value},U8s cs → ∃ ns : List Int,cs = ns.map (Value.int .u8) ∧ ∀ n ∈ ns,0 ≤ n ∧ n < 256
  | [],_ => ⟨[],rfl,by simp⟩
  | v :: r,h => by
    obtain ⟨n,rfl,hw⟩ := h 0 v rfl
    obtain ⟨ns,e,hb⟩ := u8s_list (cs := r) fun i v hv => h (i + 1) v (by simpa using hv)
    refine ⟨n :: ns,by rw [e]; rfl,?_⟩
    intro x hx
    rcases List.mem_cons.1 hx with rfl | hx
    · have := bounds_u8 hw; omega
    · exact hb x hx
omit [Glo] in
theorem argOk_bytes (w : World) (ns : List Int) : ArgOk w (.agg (ns.map (Value.int .u8)).toArray) (.agg (ns.map (LV.int .u8))) := by
  refine ⟨fun _ => [],[],fun _ => .agg (ns.map (AV.int .u8)),fun _ => rfl,fun ρ b _ => ⟨.agg ?_,fun i cs p h => by simp at h⟩,fun s b _ => .agg ?_⟩
  · show VRs ρ _ (ns.map (Value.int .u8)).toArray.toList
    simp only []
    induction ns with
    | nil => exact .nil
    | cons n r ih => exact .cons (.int _ _) ih
  · exact LRs.map _ fun x _ => .int _ _
omit [Glo] in
theorem argOk_struct {r : Reach} {b0 n k : Nat} {t : TypeId} {fs : Array Field} {v : Value} {d : DataW H} {ps : List MemPlace} (ht : P.underlying t = some (.struct fs)) (hk : u8T P n t = some k)
    (hval : Value.okWide P w r b0 t v) (hd : DataW.Trod enc P w base sp held t v d ps) :
    ∃ ns : List Int,ns.length = k ∧ (∀ n ∈ ns,0 ≤ n ∧ n < 256) ∧ ArgOk w v (.agg (ns.map (LV.int .u8))) := by
  obtain ⟨cs,rfl,_⟩ := Go.WideShapes.okWide_struct ht hval
  obtain ⟨fuel,hf⟩ := hd
  obtain ⟨h1,h2⟩ := u8T_ok n t fuel _ _ k hk hf
  obtain ⟨ns,e,hb⟩ := u8s_list h1
  have e' : cs = (ns.map (Value.int .u8)).toArray := by
    apply Array.ext'
    simpa [Value.cells] using e
  subst e'
  refine ⟨ns,?_,hb,argOk_bytes w ns⟩
  simpa [Value.cells] using h2
omit [Glo] in
theorem argOk_array {r : Reach} {b0 n k m : Nat} {t e : TypeId} {v : Value} {d : DataW H} {ps : List MemPlace} (ht : P.underlying t = some (.array m e)) (hk : u8T P n t = some k)
    (hval : Value.okWide P w r b0 t v) (hd : DataW.Trod enc P w base sp held t v d ps) :
    ∃ ns : List Int,ns.length = k ∧ (∀ n ∈ ns,0 ≤ n ∧ n < 256) ∧ ArgOk w v (.agg (ns.map (LV.int .u8))) := by
  obtain ⟨cs,rfl,_⟩ : ∃ cs,v = .agg cs ∧ cs.size = P.cellsOf t := by
    simp only [Value.okWide,ht] at hval
    obtain ⟨cs,h1,h2,_⟩ := hval
    exact ⟨cs,h1,h2⟩
  obtain ⟨fuel,hf⟩ := hd
  obtain ⟨h1,h2⟩ := u8T_ok n t fuel _ _ k hk hf
  obtain ⟨ns,e,hb⟩ := u8s_list h1
  have e' : cs = (ns.map (Value.int .u8)).toArray := by
    apply Array.ext'
    simpa [Value.cells] using e
  subst e'
  refine ⟨ns,?_,hb,argOk_bytes w ns⟩
  simpa [Value.cells] using h2
end
end Go.Am
