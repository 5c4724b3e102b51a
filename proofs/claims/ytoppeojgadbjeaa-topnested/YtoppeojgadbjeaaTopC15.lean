/-
  TopNested, 2: the order of levels; the law.
-/
import Derived.Test.YtoppeojgadbjeaaTopC14
import Derived.Test.YtoppeojgadbjeaaTopC14
set_option linter.unusedVariables false
set_option linter.unusedSimpArgs false
set_option maxRecDepth 10000
namespace Go.Am.Top
open Go.Am.G
def MO (w : List Nat) (r c : Nat) (hs : List Int) (R : List (List Nat)) (f : Nat → Nat) (o : List Int) : LMem :=
  [⟨u8s w,true⟩,⟨SH r c false false 1 hs,true⟩,⟨[.int .i64 (hs.length : Int),.sl 4 0 R.length R.length 1 1 R.length],true⟩,⟨(oL f hs.length).map (LV.int .i64),true⟩,⟨rowsV R,true⟩] ++ GM o
theorem order0_loop (w : List Nat) (r c : Nat) (hs : List Int) (hn : hs.length ≤ 7) (R : List (List Nat)) (T : Nat → Nat) (l : List Nat) (hl : l.length ≤ 100) (j : Nat) (hj : j ≤ 31) (kI : Int) (hk : kI = 31 - (j : Int)) (t : Nat) : ∀ x,x + t = hs.length →
    exF LP top_TopNested.L2 [(9,.ptr 2 0 2),(10,.sl 3 0 hs.length hs.length 0 1 hs.length),(17,GV 5 (ci (l ++ (List.range x).filter fun x => decide (T x + j = 31)))),(18,.int .i64 kI),(115,.sl 3 0 hs.length hs.length 0 1 hs.length),(116,.int .i64 (hs.length : Int)),(117,.int .i64 (x : Int))] (MO w r c hs R T (ci (l ++ (List.range x).filter fun x => decide (T x + j = 31)))) =
      some (.exit 6,[(9,.ptr 2 0 2),(10,.sl 3 0 hs.length hs.length 0 1 hs.length),(17,GV 5 (ci (l ++ (List.range hs.length).filter fun x => decide (T x + j = 31)))),(18,.int .i64 kI)],MO w r c hs R T (ci (l ++ (List.range hs.length).filter fun x => decide (T x + j = 31)))) := by
  induction t with
  | zero =>
    intro x hx
    obtain rfl : x = hs.length := by omega
    rw [top_TopNested.L2_eq]
    simp only [top_TopNested.B2,beqT,beqF,exF_seq,exF_region,exF_block,exF_cond,exF_ret,exF_exit,exF_skip,runL,wantL,stepL,evL,evC,LEnv.at,putL,loadFine,loadL,cellsAt,Trk.putNew,Trk.up,Trk.touch,Trk.gives,Trk.calm,Trk.hit,opdsOf,Trk.fresh,LEnv.keep,LEnv.ofFrom,List.map_cons,List.map_nil,nbeq,nble,nblt,ofAV,ofAVs,lenL,bin_add,bin_sub,bin_mul,bin_eql,bin_neq,bin_lss,bin_leq,bin_gtr,bin_geq,natL_nat,natL_zero,natL_one,natL_two,Nat.zero_mul,List.any_cons,List.any_nil,Bool.or_false,Bool.false_or,Bool.true_or,Bool.or_true,Bool.and_true,Bool.true_and,Bool.and_false,Bool.false_and,Bool.not_true,Bool.not_false,Nat.reduceBEq,Nat.reduceEqDiff,decide_true,decide_false,cond_true,cond_false,List.filter_nil,List.filter_cons,Nat.reduceAdd,Nat.reduceLeDiff,reduceCtorEq,List.length_nil,List.length_cons,Nat.mul_one,if_true,if_false,Bool.false_eq_true,eq_self,and_true,true_and,retL,resultsL,resAllL,resOfL,List.append_nil,List.nil_append,List.cons_append,true_or,or_true,false_or,or_false,false_and,and_false,not_true_eq_false,not_false_eq_true,ne_eq,unL,trim_nil,views_pures,LV.pures,LV.pure,freeze,Nat.reduceDiv,Int.reduceEq,Int.reduceLT,Int.reduceLE,Int.natCast_zero,LV.cells,allocL,List.getElem?_cons_zero,List.getElem?_cons_succ,storeL,spliceL,List.take_zero,List.take_succ_cons,List.drop_zero,List.drop_succ_cons,List.drop_nil,List.take_nil,Nat.le_refl,Nat.reduceMul,List.set_cons_zero,List.set_cons_succ,LV.scalar,List.all_cons,List.all_nil,Nat.lt_add_one,Nat.zero_lt_one,Nat.reduceLT,Nat.lt_irrefl,fillL,foldIntL,kind_beq,pures_int,solids_int,plains_int,unders_int,scalars_int,Int.lt_irrefl]
  | succ t ih =>
    intro x hx
    have h2 : x < hs.length := by omega
    have ih := ih (x + 1) (by omega)
    have hval := oL_at T hs.length x h2
    have wk := wrap_succ (show x + 1 < 9223372036854775808 by omega)
    have hpl : ((oL T hs.length).map (LV.int .i64)).length = hs.length := by simp
    have hfl := List.length_filter_le (fun x => decide (T x + j = 31)) (List.range x)
    rw [List.length_range] at hfl
    rw [List.range_succ,List.filter_append,← List.append_assoc] at ih
    have happ := append_grow [⟨u8s w,true⟩,⟨SH r c false false 1 hs,true⟩,⟨[.int .i64 (hs.length : Int),.sl 4 0 R.length R.length 1 1 R.length],true⟩,⟨(oL T hs.length).map (LV.int .i64),true⟩,⟨rowsV R,true⟩] (ci (l ++ (List.range x).filter fun x => decide (T x + j = 31))) (x : Int) true (by simp only [ci,List.length_map,List.length_append]; omega)
    simp only [List.length_cons,List.length_nil,Nat.zero_add,Nat.reduceAdd] at happ
    rw [top_TopNested.L2_eq]
    generalize hlo : l ++ (List.range x).filter (fun x => decide (T x + j = 31)) = lo at *
    by_cases h : T x + j = 31
    · have e2 : ci (lo ++ [x].filter fun x => decide (T x + j = 31)) = ci lo ++ [(x : Int)] := by simp [ci,h]
      rw [e2] at ih
      simp only [MO,List.cons_append,List.nil_append] at happ ih ⊢
      generalize GM (ci lo) = M0 at *
      generalize GM (ci lo ++ [(x : Int)]) = M1 at *
      generalize GV 5 (ci lo) = V0 at *
      generalize GV 5 (ci lo ++ [(x : Int)]) = V1 at *
      generalize (oL T hs.length).map (LV.int .i64) = O1 at *
      simp only [top_TopNested.B2,beqT,beqF,exF_seq,exF_region,exF_block,exF_cond,exF_ret,exF_exit,exF_skip,runL,wantL,stepL,evL,evC,LEnv.at,putL,loadFine,loadL,cellsAt,Trk.putNew,Trk.up,Trk.touch,Trk.gives,Trk.calm,Trk.hit,opdsOf,Trk.fresh,LEnv.keep,LEnv.ofFrom,List.map_cons,List.map_nil,nbeq,nble,nblt,ofAV,ofAVs,lenL,bin_add,bin_sub,bin_mul,bin_eql,bin_neq,bin_lss,bin_leq,bin_gtr,bin_geq,natL_nat,natL_zero,natL_one,natL_two,Nat.zero_mul,List.any_cons,List.any_nil,Bool.or_false,Bool.false_or,Bool.true_or,Bool.or_true,Bool.and_true,Bool.true_and,Bool.and_false,Bool.false_and,Bool.not_true,Bool.not_false,Nat.reduceBEq,Nat.reduceEqDiff,decide_true,decide_false,cond_true,cond_false,List.filter_nil,List.filter_cons,Nat.reduceAdd,Nat.reduceLeDiff,reduceCtorEq,List.length_nil,List.length_cons,Nat.mul_one,if_true,if_false,Bool.false_eq_true,eq_self,and_true,true_and,retL,resultsL,resAllL,resOfL,List.append_nil,List.nil_append,List.cons_append,true_or,or_true,false_or,or_false,false_and,and_false,not_true_eq_false,not_false_eq_true,ne_eq,unL,trim_nil,views_pures,LV.pures,LV.pure,freeze,Nat.reduceDiv,Int.reduceEq,Int.reduceLT,Int.reduceLE,Int.natCast_zero,LV.cells,allocL,List.getElem?_cons_zero,List.getElem?_cons_succ,storeL,spliceL,List.take_zero,List.take_succ_cons,List.drop_zero,List.drop_succ_cons,List.drop_nil,List.take_nil,Nat.le_refl,Nat.reduceMul,List.set_cons_zero,List.set_cons_succ,LV.scalar,List.all_cons,List.all_nil,Nat.lt_add_one,Nat.zero_lt_one,Nat.reduceLT,Nat.lt_irrefl,fillL,foldIntL,kind_beq,pures_int,solids_int,plains_int,unders_int,scalars_int,show (x : Int) < (hs.length : Int) by omega,h2,Nat.zero_add,hpl,hval,show ((T x : Nat) : Int) = kI by omega,happ,wk,ih]
    · have e2 : ci (lo ++ [x].filter fun x => decide (T x + j = 31)) = ci lo := by simp [ci,h]
      rw [e2] at ih
      simp only [MO,List.cons_append,List.nil_append] at ih ⊢
      generalize GM (ci lo) = M0 at *
      generalize GV 5 (ci lo) = V0 at *
      generalize (oL T hs.length).map (LV.int .i64) = O1 at *
      simp only [top_TopNested.B2,beqT,beqF,exF_seq,exF_region,exF_block,exF_cond,exF_ret,exF_exit,exF_skip,runL,wantL,stepL,evL,evC,LEnv.at,putL,loadFine,loadL,cellsAt,Trk.putNew,Trk.up,Trk.touch,Trk.gives,Trk.calm,Trk.hit,opdsOf,Trk.fresh,LEnv.keep,LEnv.ofFrom,List.map_cons,List.map_nil,nbeq,nble,nblt,ofAV,ofAVs,lenL,bin_add,bin_sub,bin_mul,bin_eql,bin_neq,bin_lss,bin_leq,bin_gtr,bin_geq,natL_nat,natL_zero,natL_one,natL_two,Nat.zero_mul,List.any_cons,List.any_nil,Bool.or_false,Bool.false_or,Bool.true_or,Bool.or_true,Bool.and_true,Bool.true_and,Bool.and_false,Bool.false_and,Bool.not_true,Bool.not_false,Nat.reduceBEq,Nat.reduceEqDiff,decide_true,decide_false,cond_true,cond_false,List.filter_nil,List.filter_cons,Nat.reduceAdd,Nat.reduceLeDiff,reduceCtorEq,List.length_nil,List.length_cons,Nat.mul_one,if_true,if_false,Bool.false_eq_true,eq_self,and_true,true_and,retL,resultsL,resAllL,resOfL,List.append_nil,List.nil_append,List.cons_append,true_or,or_true,false_or,or_false,false_and,and_false,not_true_eq_false,not_false_eq_true,ne_eq,unL,trim_nil,views_pures,LV.pures,LV.pure,freeze,Nat.reduceDiv,Int.reduceEq,Int.reduceLT,Int.reduceLE,Int.natCast_zero,LV.cells,allocL,List.getElem?_cons_zero,List.getElem?_cons_succ,storeL,spliceL,List.take_zero,List.take_succ_cons,List.drop_zero,List.drop_succ_cons,List.drop_nil,List.take_nil,Nat.le_refl,Nat.reduceMul,List.set_cons_zero,List.set_cons_succ,LV.scalar,List.all_cons,List.all_nil,Nat.lt_add_one,Nat.zero_lt_one,Nat.reduceLT,Nat.lt_irrefl,fillL,foldIntL,kind_beq,pures_int,solids_int,plains_int,unders_int,scalars_int,show (x : Int) < (hs.length : Int) by omega,h2,Nat.zero_add,hpl,hval,show ¬ ((T x : Nat) : Int) = kI by omega,wk,ih]
theorem order_loop (w : List Nat) (r c : Nat) (hs : List Int) (hn : hs.length ≤ 7) (R : List (List Nat)) (T : Nat → Nat) (hT : ∀ x,T x ≤ 31) (t : Nat) : ∀ j,j + t = 32 →
    exF LP top_TopNested.L3 [(9,.ptr 2 0 2),(10,.sl 3 0 hs.length hs.length 0 1 hs.length),(17,GV 5 (ci (od T hs.length j))),(18,.int .i64 (31 - (j : Int)))] (MO w r c hs R T (ci (od T hs.length j))) =
      some (.exit 4,[(9,.ptr 2 0 2),(17,GV 5 (ci (od T hs.length 32)))],MO w r c hs R T (ci (od T hs.length 32))) := by
  have hlo : ∀ j,j ≤ 32 → (od T hs.length j).length ≤ 100 := by
    intro j hj
    obtain ⟨B,hB⟩ := pre_od T hs.length j (32 - j)
    rw [show j + (32 - j) = 32 by omega] at hB
    have := len_od T hs.length fun x _ => hT x
    rw [hB,List.length_append] at this
    omega
  induction t with
  | zero =>
    intro j hj
    obtain rfl : j = 32 := by omega
    rw [top_TopNested.L3_eq]
    simp only [top_TopNested.B3,beqT,beqF,exF_seq,exF_region,exF_block,exF_cond,exF_ret,exF_exit,exF_skip,runL,wantL,stepL,evL,evC,LEnv.at,putL,loadFine,loadL,cellsAt,Trk.putNew,Trk.up,Trk.touch,Trk.gives,Trk.calm,Trk.hit,opdsOf,Trk.fresh,LEnv.keep,LEnv.ofFrom,List.map_cons,List.map_nil,nbeq,nble,nblt,ofAV,ofAVs,lenL,bin_add,bin_sub,bin_mul,bin_eql,bin_neq,bin_lss,bin_leq,bin_gtr,bin_geq,natL_nat,natL_zero,natL_one,natL_two,Nat.zero_mul,List.any_cons,List.any_nil,Bool.or_false,Bool.false_or,Bool.true_or,Bool.or_true,Bool.and_true,Bool.true_and,Bool.and_false,Bool.false_and,Bool.not_true,Bool.not_false,Nat.reduceBEq,Nat.reduceEqDiff,decide_true,decide_false,cond_true,cond_false,List.filter_nil,List.filter_cons,Nat.reduceAdd,Nat.reduceLeDiff,reduceCtorEq,List.length_nil,List.length_cons,Nat.mul_one,if_true,if_false,Bool.false_eq_true,eq_self,and_true,true_and,retL,resultsL,resAllL,resOfL,List.append_nil,List.nil_append,List.cons_append,true_or,or_true,false_or,or_false,false_and,and_false,not_true_eq_false,not_false_eq_true,ne_eq,unL,trim_nil,views_pures,LV.pures,LV.pure,freeze,Nat.reduceDiv,Int.reduceEq,Int.reduceLT,Int.reduceLE,Int.natCast_zero,LV.cells,allocL,List.getElem?_cons_zero,List.getElem?_cons_succ,storeL,spliceL,List.take_zero,List.take_succ_cons,List.drop_zero,List.drop_succ_cons,List.drop_nil,List.take_nil,Nat.le_refl,Nat.reduceMul,List.set_cons_zero,List.set_cons_succ,LV.scalar,List.all_cons,List.all_nil,Nat.lt_add_one,Nat.zero_lt_one,Nat.reduceLT,Nat.lt_irrefl,fillL,foldIntL,kind_beq,pures_int,solids_int,plains_int,unders_int,scalars_int,show ¬ ((31 : Int) - ((32 : Nat) : Int) ≥ 0) by omega,show ¬ ((0 : Int) ≤ (31 : Int) - ((32 : Nat) : Int)) by omega]
  | succ t ih =>
    intro j hj
    have ih := ih (j + 1) (by omega)
    have h1 := order0_loop w r c hs hn R T (od T hs.length j) (hlo j (by omega)) j (by omega) (31 - (j : Int)) rfl hs.length 0 (by omega)
    have e1 : od T hs.length j ++ (List.range hs.length).filter (fun x => decide (T x + j = 31)) = od T hs.length (j + 1) := rfl
    rw [e1] at h1
    simp only [List.range_zero,List.filter_nil,List.append_nil,Int.natCast_zero] at h1
    have hw : IntKind.i64.wrap (31 - (j : Int) - 1) = 31 - ((j + 1 : Nat) : Int) := by rw [wrap_in (by omega)]; omega
    rw [top_TopNested.L3_eq]
    generalize MO w r c hs R T (ci (od T hs.length j)) = M0 at *
    generalize MO w r c hs R T (ci (od T hs.length (j + 1))) = M1 at *
    generalize GV 5 (ci (od T hs.length j)) = V0 at *
    generalize GV 5 (ci (od T hs.length (j + 1))) = V1 at *
    simp only [top_TopNested.B3,beqT,beqF,exF_seq,exF_region,exF_block,exF_cond,exF_ret,exF_exit,exF_skip,runL,wantL,stepL,evL,evC,LEnv.at,putL,loadFine,loadL,cellsAt,Trk.putNew,Trk.up,Trk.touch,Trk.gives,Trk.calm,Trk.hit,opdsOf,Trk.fresh,LEnv.keep,LEnv.ofFrom,List.map_cons,List.map_nil,nbeq,nble,nblt,ofAV,ofAVs,lenL,bin_add,bin_sub,bin_mul,bin_eql,bin_neq,bin_lss,bin_leq,bin_gtr,bin_geq,natL_nat,natL_zero,natL_one,natL_two,Nat.zero_mul,List.any_cons,List.any_nil,Bool.or_false,Bool.false_or,Bool.true_or,Bool.or_true,Bool.and_true,Bool.true_and,Bool.and_false,Bool.false_and,Bool.not_true,Bool.not_false,Nat.reduceBEq,Nat.reduceEqDiff,decide_true,decide_false,cond_true,cond_false,List.filter_nil,List.filter_cons,Nat.reduceAdd,Nat.reduceLeDiff,reduceCtorEq,List.length_nil,List.length_cons,Nat.mul_one,if_true,if_false,Bool.false_eq_true,eq_self,and_true,true_and,retL,resultsL,resAllL,resOfL,List.append_nil,List.nil_append,List.cons_append,true_or,or_true,false_or,or_false,false_and,and_false,not_true_eq_false,not_false_eq_true,ne_eq,unL,trim_nil,views_pures,LV.pures,LV.pure,freeze,Nat.reduceDiv,Int.reduceEq,Int.reduceLT,Int.reduceLE,Int.natCast_zero,LV.cells,allocL,List.getElem?_cons_zero,List.getElem?_cons_succ,storeL,spliceL,List.take_zero,List.take_succ_cons,List.drop_zero,List.drop_succ_cons,List.drop_nil,List.take_nil,Nat.le_refl,Nat.reduceMul,List.set_cons_zero,List.set_cons_succ,LV.scalar,List.all_cons,List.all_nil,Nat.lt_add_one,Nat.zero_lt_one,Nat.reduceLT,Nat.lt_irrefl,fillL,foldIntL,kind_beq,pures_int,solids_int,plains_int,unders_int,scalars_int,show ((31 : Int) - (j : Int) ≥ 0) by omega,show ((0 : Int) ≤ (31 : Int) - (j : Int)) by omega,h1,hw,ih]
theorem view_fin (m : LMem) (n k : Nat) (R : List (List Nat)) (h : m[4]? = some ⟨rowsV R,true⟩) (hk : k = R.length) : view 98 m (.agg [.int .i64 (n : Int),.sl 4 0 k k 1 1 k]) = some (.agg [.int .i64 (n : Int),RF false false 1 R],[4]) := by
  subst hk
  have e1 : ∀ j,view (j + 3) m (.sl 4 0 R.length R.length 1 1 R.length) = some (RF false false 1 R,[4]) := fun j => by
    have := view_slc j m 4 0 R.length R.length 1 R.length 1 (rowsV R) true h (by rw [List.drop_zero,List.take_of_length_le (by simp)]; exact pures_rows R) (by simp) (by omega) (Nat.le_refl _)
    rw [this,List.drop_zero,List.take_of_length_le (by simp)]
    simp [nbeq]
  have e2 := views_snd 89 m (.int .i64 (n : Int)) (.sl 4 0 R.length R.length 1 1 R.length) _ [4] e1 rfl (by simp [LV.pures,LV.pure])
  rw [view.eq_def]; simp only [e2]
theorem views_fin1 (m : LMem) (A A' : LV) (ia : List Nat) (h : view 98 m A = some (A',ia)) (hn : A.pure = false) : views m [A] = some ([A'],ia) := by
  unfold views
  rw [viewL.eq_def]
  simp only [show LV.pures [A] = false by simp [LV.pures,hn],cond_false]
  rw [viewC.eq_def]
  simp only [h]
  rw [viewC.eq_def]
  simp
theorem views_fin2 (m : LMem) (A A' B B' : LV) (ia ib : List Nat) (h : view 98 m A = some (A',ia)) (h2 : view 97 m B = some (B',ib)) (hn : A.pure = false) : views m [A,B] = some ([A',B'],ia ++ ib) := by
  unfold views
  rw [viewL.eq_def]
  simp only [show LV.pures [A,B] = false by simp [LV.pures,hn],cond_false]
  rw [viewC.eq_def]
  simp only [h]
  rw [viewC.eq_def]
  simp only [h2]
  rw [viewC.eq_def]
  simp
theorem fms_levels {r c : Nat} {hs : List Int} (S : Sho r c hs) (hn : hs.length ≤ 7) (T : Nat → Nat) (hl : ∀ x,x < hs.length → hs.length ≤ x + c → 1 ≤ T x) : Fms hs.length (Rw T hs.length 31) := by
  have hcl := S.cle
  have hc := S.cb
  refine ⟨by omega,?_,?_,?_,?_⟩
  · have : (lvs T hs.length 31).length + (lv T hs.length 30).length ≤ hs.length + 1 := lvs_le T hs.length 30
    simp only [Rw,List.length_map]
    omega
  · intro l hm
    obtain ⟨v,hv,rfl⟩ := List.mem_map.1 hm
    have := lvs_mem T hs.length 31 v hv
    rcases this.2 with rfl | h
    · intro e
      have hm : hs.length - 1 ∈ lv T hs.length 0 := (lv_mem _ _ _ _).2 ⟨by omega,by have := hl (hs.length - 1) (by omega) (by omega); omega⟩
      rw [e] at hm; simp at hm
    · exact List.length_pos_iff.1 h
  · intro l hm x hx
    obtain ⟨v,hv,rfl⟩ := List.mem_map.1 hm
    exact ((lv_mem _ _ _ _).1 hx).1
  · intro l hm
    obtain ⟨v,hv,rfl⟩ := List.mem_map.1 hm
    exact lv_asc _ _ _
theorem nested_c (a b : Nat) (ha : a < 256) (hb : b < 256) (w : List Nat) (hw : w.length = 7) (hwb : ∀ x ∈ w,x < 256) : clF LP n_top_TopNested [.int .u8 (a : Int),.int .u8 (b : Int),.agg (u8s w)] [] = some (.P,.bool true,[]) := by
  obtain ⟨r,c,hs,S,hn,hsh⟩ := shored_c a b ha hb w hw hwb
  obtain ⟨T,hT,hl,hB⟩ := bare_c S false false 1
  have hcl := S.cle
  have hcb := S.cb
  have F := fms_levels S hn T hl
  have h1 := level_loop S hn T hT hl hB w 31 0 (by omega)
  have e31 : (fun x => min 31 (T x)) = T := funext fun x => by have := hT x; omega
  have e00 : (fun x => min 0 (T x)) = fun _ => 0 := funext fun x => by omega
  rw [e31,e00] at h1
  have eR0 : Rw T hs.length 0 = [] := rfl
  have el0 : lastN T hs.length 0 = hs.length := rfl
  rw [eR0,el0] at h1
  obtain ⟨rr,hrr⟩ := lvs_head T hs.length 30
  have hR : Rw T hs.length 31 = lv T hs.length 0 :: rr.map (lv T hs.length) := by unfold Rw; rw [hrr,List.map_cons]
  have h2 := order_loop w r c hs hn (Rw T hs.length 31) T hT 32 0 (by omega)
  have hod0 : od T hs.length 0 = [] := rfl
  rw [hod0] at h2
  -- an order of all layers
  have O : Ord hs.length (od T hs.length 32) := ⟨len_od T hs.length fun x _ => hT x,nodup_od T hs.length 32 (Nat.le_refl _),fun x hx => ((mem_od T hs.length 32 x (Nat.le_refl _)).1 hx).1⟩
  have him : ∀ l ∈ Rw T hs.length 31,∃ k,(1 ≤ k ∧ k ≤ 7) ∧ im (od T hs.length 32) hs.length (bitsL l) = 2 ^ k - 1 := by
    intro l hm
    have hne := F.ne l hm
    obtain ⟨v,hv,rfl⟩ := List.mem_map.1 hm
    have hv2 := (lvs_mem T hs.length 31 v hv).1
    refine ⟨(od T hs.length (31 - v)).length,⟨?_,?_⟩,img_level T hs.length v _ (by omega) (fun x _ => hT x) fun x hx => ?_⟩
    · obtain ⟨x,hx⟩ := List.exists_mem_of_ne_nil _ hne
      have hx := (lv_mem _ _ _ _).1 hx
      have : x ∈ od T hs.length (31 - v) := (mem_od T hs.length (31 - v) x (by omega)).2 ⟨hx.1,hT x,by omega⟩
      exact List.length_pos_of_mem this
    · obtain ⟨B,hB⟩ := pre_od T hs.length (31 - v) (v + 1)
      rw [show 31 - v + (v + 1) = 32 by omega] at hB
      have := O.len
      rw [hB,List.length_append] at this
      omega
    · rw [bitsL_bit,decide_eq_true_eq,lv_mem]
      exact ⟨fun h => h.2,fun h => ⟨hx,h⟩⟩
  have hen : 0 < en (mayB (sets (Rw T hs.length 31))) hs.length 0 := by
    refine en_pos _ _ (fun G hG => ?_) fun G hG H hH => ?_
    · obtain ⟨l,hl',rfl⟩ := List.mem_map.1 hG
      exact bitsL_lt l _ (F.lt l hl')
    · obtain ⟨l,hl',rfl⟩ := List.mem_map.1 hG
      obtain ⟨l2,hl2,rfl⟩ := List.mem_map.1 hH
      obtain ⟨v,hv,rfl⟩ := List.mem_map.1 hl'
      obtain ⟨u,hu,rfl⟩ := List.mem_map.1 hl2
      unfold NA
      simp only [bitsL_bit,decide_eq_true_eq,lv_mem]
      by_cases q : u ≤ v
      · exact .inl fun x h => ⟨h.1,by omega⟩
      · exact .inr (.inl fun x h => ⟨h.1,by omega⟩)
  have hW := fun nl ex sz m => Whole_c O (Rw T hs.length 31) F him false false 1 nl ex sz m
  have hC := fun m => Count_c hs.length (Rw T hs.length 31) F false false 1 m
  have hY := fun m => Why_c hs.length (Rw T hs.length 31) F hen false false 1 m
  have hlv0 : 0 < (lv T hs.length 0).length := by
    have : hs.length - 1 ∈ lv T hs.length 0 := (lv_mem _ _ _ _).2 ⟨by omega,by have := hl (hs.length - 1) (by omega) (by omega); omega⟩
    exact List.length_pos_of_mem this
  have hrow0 : (rowsV (Rw T hs.length 31))[0]? = some (rlv (ci (lv T hs.length 0))) := by rw [hR]; rfl
  have hk1 : 1 ≤ (Rw T hs.length 31).length := by rw [hR]; simp
  have hk2 := F.few
  have hMN : MN w r c hs (Rw T hs.length 31) T = MO w r c hs (Rw T hs.length 31) T [] := by
    unfold MN MO GVc GMc
    rw [if_neg (by omega),if_neg (by omega),Nat.mul_one]
    rfl
  rw [hMN] at h1
  have hM0 : MN w r c hs [] (fun _ => 0) = [⟨u8s w,true⟩,⟨SH r c false false 1 hs,true⟩,⟨[.int .i64 (hs.length : Int),.lst true true 0 0 []],true⟩,⟨(List.replicate hs.length (0 : Int)).map (LV.int .i64),true⟩] := by
    unfold MN
    have : oL (fun _ => 0) hs.length = List.replicate hs.length (0 : Int) := by
      apply List.ext_getElem?
      intro i
      by_cases h : i < hs.length <;> simp [h]
    rw [this]
    rfl
  rw [hM0] at h1
  have g2 : ∀ o,(MO w r c hs (Rw T hs.length 31) T o)[2]? = some ⟨[.int .i64 (hs.length : Int),.sl 4 0 (Rw T hs.length 31).length (Rw T hs.length 31).length 1 1 (Rw T hs.length 31).length],true⟩ := fun _ => rfl
  have g4 : ∀ o,(MO w r c hs (Rw T hs.length 31) T o)[4]? = some ⟨rowsV (Rw T hs.length 31),true⟩ := fun _ => rfl
  have hod : od T hs.length 32 ≠ [] := fun e => by have := O.len; rw [e] at this; simp at this; omega
  have hciod : ci (od T hs.length 32) ≠ [] := by simpa [ci] using hod
  -- the calls,with the finds in memory
  have hv1 := view_fin (MO w r c hs (Rw T hs.length 31) T (ci (od T hs.length 32))) hs.length _ (Rw T hs.length 31) (g4 _) rfl
  have hv2 : view 97 (MO w r c hs (Rw T hs.length 31) T (ci (od T hs.length 32))) (GV 5 (ci (od T hs.length 32))) = some (RL (ci (od T hs.length 32)),[5]) := by
    have := view_gv 94 (MO w r c hs (Rw T hs.length 31) T (ci (od T hs.length 32))) 5 (ci (od T hs.length 32)) true (fun h => by
      unfold MO GM; rw [if_neg h]; rfl)
    rw [this,if_neg hciod]
  have hA : LV.pure (.agg [.int .i64 (hs.length : Int),.sl 4 0 (Rw T hs.length 31).length (Rw T hs.length 31).length 1 1 (Rw T hs.length 31).length]) = false := by simp [LV.pure,LV.pures]
  have cW := call_view lp_style_Whole rfl (views_fin2 _ _ _ _ _ _ _ hv1 hv2 hA) (by simp only [LV.pures,LV.pure,pures_rows,pures_int,Bool.and_self]) (hW _ _ _ []) rfl
  have cC := call_view lp_style_Count rfl (views_fin1 _ _ _ _ hv1 hA) (by simp only [LV.pures,LV.pure,pures_rows,Bool.and_self]) (hC []) rfl
  have cY := call_view lp_style_Why rfl (views_fin1 _ _ _ _ hv1 hA) (by simp only [LV.pures,LV.pure,pures_rows,Bool.and_self]) (hY []) rfl
  have hwk := fun m => works_c m
  have hwl : (u8s w).length = 7 := by simp [hw]
  have htk7 : (u8s w).take 7 = u8s w := List.take_of_length_le (by omega)
  have hr1 : hs.length * 8 ≤ roomMost := by unfold roomMost; omega
  have hr2 : hs.length ≤ roomMost := by unfold roomMost; omega
  have hcl0 : (ci (lv T hs.length 0)).length = (lv T hs.length 0).length := by simp
  have hrl : (rowsV (Rw T hs.length 31)).length = (Rw T hs.length 31).length := by simp
  have e0 : ci [] = [] := rfl
  simp only [Int.natCast_zero] at h1 h2
  rw [e0,GV_nil] at h2
  have e31' : (31 : Int) - 0 = 31 := rfl
  rw [e31'] at h2
  refine call_P lp_top_TopNested rfl (by simp only [LV.pures,LV.pure,pures_u8s,Bool.and_self]) (m1 := MO w r c hs (Rw T hs.length 31) T (ci (od T hs.length 32))) ?_ rfl []
  have g21 := g2 []
  have g41 := g4 []
  have g2x := g2 (ci (od T hs.length 32))
  generalize MO w r c hs (Rw T hs.length 31) T (ci (od T hs.length 32)) = Mx at *
  generalize MO w r c hs (Rw T hs.length 31) T [] = M1 at *
  generalize hK : (Rw T hs.length 31).length = K at *
  generalize GV 5 (ci (od T hs.length 32)) = V at *
  simp only [top_TopNested,top_TopNested.B,top_TopNested.B.R0,top_TopNested.B.R1,top_TopNested.B.R2,top_TopNested.B.R3,beqT,beqF,exF_seq,exF_region,exF_block,exF_cond,exF_ret,exF_exit,exF_skip,runL,wantL,stepL,evL,evC,LEnv.at,putL,loadFine,loadL,cellsAt,Trk.putNew,Trk.up,Trk.touch,Trk.gives,Trk.calm,Trk.hit,opdsOf,Trk.fresh,LEnv.keep,LEnv.ofFrom,List.map_cons,List.map_nil,nbeq,nble,nblt,ofAV,ofAVs,bin_add,bin_sub,bin_mul,bin_eql,bin_neq,bin_lss,bin_leq,bin_gtr,bin_geq,natL_nat,natL_zero,natL_one,natL_two,Nat.zero_mul,List.any_cons,List.any_nil,Bool.or_false,Bool.false_or,Bool.true_or,Bool.or_true,Bool.and_true,Bool.true_and,Bool.and_false,Bool.false_and,Bool.not_true,Bool.not_false,Nat.reduceBEq,Nat.reduceEqDiff,decide_true,decide_false,cond_true,cond_false,List.filter_nil,List.filter_cons,Nat.reduceAdd,Nat.reduceLeDiff,reduceCtorEq,List.length_nil,List.length_cons,Nat.mul_one,if_true,if_false,Bool.false_eq_true,eq_self,and_true,true_and,retL,resultsL,resAllL,resOfL,List.append_nil,List.nil_append,List.cons_append,true_or,or_true,false_or,or_false,false_and,and_false,not_true_eq_false,not_false_eq_true,ne_eq,unL,trim_nil,views_pures,LV.pures,LV.pure,freeze,Nat.reduceDiv,Int.reduceEq,Int.reduceLT,Int.reduceLE,Int.natCast_zero,allocL,List.getElem?_cons_zero,List.getElem?_cons_succ,storeL,spliceL,List.take_zero,List.take_succ_cons,List.drop_zero,List.drop_succ_cons,List.drop_nil,List.take_nil,Nat.le_refl,Nat.reduceMul,List.set_cons_zero,List.set_cons_succ,List.all_cons,List.all_nil,Nat.lt_add_one,Nat.zero_lt_one,Nat.reduceLT,Nat.lt_irrefl,fillL,List.length_append,foldIntL,kind_beq,pures_int,solids_int,plains_int,unders_int,scalars_int,lenL,cellsI,cellsA,scalarI,scalarN,hwl,htk7,hsh,zeros_int,hr1,hr2,h1,g21,g41,hrl,hrow0,hk1,hcl0,show ¬ (K : Int) > 10 by omega,show ¬ 10 < (K : Int) by omega,show 0 < K by omega,show ¬ (((lv T hs.length 0).length : Nat) : Int) = 0 by omega,h2,g2x,cW,cC,cY,hwk,hen,show ((en (mayB (sets (Rw T hs.length 31))) hs.length 0 : Nat) : Int) > 0 by omega,show (0 : Int) < ((en (mayB (sets (Rw T hs.length 31))) hs.length 0 : Nat) : Int) by omega]
theorem nested_in (a : Int) (ha : 0 ≤ a ∧ a < 256) (b : Int) (hb : 0 ≤ b ∧ b < 256) (ns : List Int) (hl : ns.length = 7) (hns : ∀ n ∈ ns,0 ≤ n ∧ n < 256) :
    clF LP n_top_TopNested [.int .u8 a,.int .u8 b,.agg (ns.map (LV.int .u8))] [] = some (.P,.bool true,[]) := by
  obtain ⟨x,rfl⟩ := Int.eq_ofNat_of_zero_le ha.1
  obtain ⟨y,rfl⟩ := Int.eq_ofNat_of_zero_le hb.1
  obtain ⟨w,rfl,hw⟩ := nat_list ns hns
  have e : (ci w).map (LV.int .u8) = u8s w := by simp [ci,u8s]
  rw [e]
  exact nested_c x y (by omega) (by omega) w (by simpa using hl) hw
end Go.Am.Top
