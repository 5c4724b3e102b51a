import Derived.Test.YtoppeojgadbjeaaTopC7
set_option linter.unusedVariables false
set_option linter.unusedSimpArgs false
set_option maxRecDepth 10000
namespace Go.Am.Top
open Go.Am.G
abbrev UV (nl ex : Bool) (sz : Nat) (fs : List Nat) : LV := .lst nl ex sz fs.length (u8s fs)
theorem u8_at (l : List Nat) (k : Nat) (h : k < l.length) : (u8s l)[k]? = some (.int .u8 ((l[k] : Nat) : Int)) := by simp [h]
theorem uindex_loop (nl ex : Bool) (sz : Nat) (g : Nat) (cap : List LV) (p : Nat → Bool) (l : List Nat) (hl : l.length < 1000000) (hg : ∀ x ∈ l,∀ m,clF LP g (.int .u8 ((x : Nat) : Int) :: cap) m = some (.P,.bool (p x),m)) (n : Nat) : ∀ k,k + n = l.length →
    exF LP slices_IndexFunc_style_set_style_set.L0 [(0,UV nl ex sz l),(1,.func g [] cap),(7,.int .i64 (l.length : Int)),(8,.int .i64 (k : Int))] [] = if (l.drop k).any p then some (.ret,[(4,.int .i64 ((k + (l.drop k).findIdx p : Nat) : Int))],[]) else some (.exit 0,[],[]) := by
  induction n with
  | zero =>
    intro k hk
    rw [slices_IndexFunc_style_set_style_set.L0_eq]
    simp only [slices_IndexFunc_style_set_style_set.B0,beqT,beqF,exF_seq,exF_region,exF_block,exF_cond,exF_ret,exF_exit,exF_skip,runL,wantL,stepL,evL,evC,LEnv.at,putL,loadFine,loadL,cellsAt,Trk.putNew,Trk.up,Trk.touch,Trk.gives,Trk.calm,Trk.hit,opdsOf,Trk.fresh,LEnv.keep,LEnv.ofFrom,List.map_cons,List.map_nil,nbeq,nble,nblt,ofAV,ofAVs,lenL,bin_add,bin_sub,bin_mul,bin_eql,bin_neq,bin_lss,bin_leq,bin_gtr,bin_geq,natL_nat,natL_zero,natL_one,natL_two,Nat.zero_mul,List.any_cons,List.any_nil,Bool.or_false,Bool.false_or,Bool.true_or,Bool.or_true,Bool.and_true,Bool.true_and,Bool.and_false,Bool.false_and,Bool.not_true,Bool.not_false,Nat.reduceBEq,Nat.reduceEqDiff,decide_true,decide_false,cond_true,cond_false,List.filter_nil,List.filter_cons,Nat.reduceAdd,Nat.reduceLeDiff,reduceCtorEq,List.length_nil,List.length_cons,Nat.mul_one,if_true,if_false,Bool.false_eq_true,eq_self,and_true,true_and,retL,resultsL,resAllL,resOfL,List.append_nil,List.nil_append,List.cons_append,true_or,or_true,false_or,or_false,false_and,and_false,not_true_eq_false,not_false_eq_true,ne_eq,unL,trim_nil,views_pures,LV.pures,LV.pure,freeze,Nat.reduceDiv,Int.reduceEq,Int.reduceLT,Int.reduceLE,Int.natCast_zero,LV.cells,allocL,List.getElem?_cons_zero,List.getElem?_cons_succ,storeL,spliceL,List.take_zero,List.take_succ_cons,List.drop_zero,List.drop_succ_cons,List.drop_nil,List.take_nil,Nat.le_refl,Nat.reduceMul,List.set_cons_zero,List.set_cons_succ,LV.scalar,List.all_cons,List.all_nil,Nat.lt_add_one,Nat.zero_lt_one,Nat.reduceLT,Nat.lt_irrefl,fillL,List.length_append,foldIntL,kind_beq,pures_int,solids_int,plains_int,unders_int,scalars_int,show ¬ ((k : Int) < (l.length : Int)) by omega]
    simp [List.drop_eq_nil_of_le (show l.length ≤ k by omega)]
  | succ n ih =>
    intro k hk
    have h2 : k < l.length := by omega
    have ih := ih (k + 1) (by omega)
    have hg := hg l[k] (List.getElem_mem h2)
    rw [slices_IndexFunc_style_set_style_set.L0_eq,List.drop_eq_getElem_cons h2,List.any_cons,List.findIdx_cons]
    cases he : p l[k]
    · rw [he] at hg
      simp only [slices_IndexFunc_style_set_style_set.B0,beqT,beqF,exF_seq,exF_region,exF_block,exF_cond,exF_ret,exF_exit,exF_skip,runL,wantL,stepL,evL,evC,LEnv.at,putL,loadFine,loadL,cellsAt,Trk.putNew,Trk.up,Trk.touch,Trk.gives,Trk.calm,Trk.hit,opdsOf,Trk.fresh,LEnv.keep,LEnv.ofFrom,List.map_cons,List.map_nil,nbeq,nble,nblt,ofAV,ofAVs,lenL,bin_add,bin_sub,bin_mul,bin_eql,bin_neq,bin_lss,bin_leq,bin_gtr,bin_geq,natL_nat,natL_zero,natL_one,natL_two,Nat.zero_mul,List.any_cons,List.any_nil,Bool.or_false,Bool.false_or,Bool.true_or,Bool.or_true,Bool.and_true,Bool.true_and,Bool.and_false,Bool.false_and,Bool.not_true,Bool.not_false,Nat.reduceBEq,Nat.reduceEqDiff,decide_true,decide_false,cond_true,cond_false,List.filter_nil,List.filter_cons,Nat.reduceAdd,Nat.reduceLeDiff,reduceCtorEq,List.length_nil,List.length_cons,Nat.mul_one,if_true,if_false,Bool.false_eq_true,eq_self,and_true,true_and,retL,resultsL,resAllL,resOfL,List.append_nil,List.nil_append,List.cons_append,true_or,or_true,false_or,or_false,false_and,and_false,not_true_eq_false,not_false_eq_true,ne_eq,unL,trim_nil,views_pures,LV.pures,LV.pure,freeze,Nat.reduceDiv,Int.reduceEq,Int.reduceLT,Int.reduceLE,Int.natCast_zero,LV.cells,allocL,List.getElem?_cons_zero,List.getElem?_cons_succ,storeL,spliceL,List.take_zero,List.take_succ_cons,List.drop_zero,List.drop_succ_cons,List.drop_nil,List.take_nil,Nat.le_refl,Nat.reduceMul,List.set_cons_zero,List.set_cons_succ,LV.scalar,List.all_cons,List.all_nil,Nat.lt_add_one,Nat.zero_lt_one,Nat.reduceLT,Nat.lt_irrefl,fillL,List.length_append,foldIntL,kind_beq,pures_int,solids_int,plains_int,unders_int,scalars_int,show ((k : Int) < (l.length : Int)) by omega,h2,u8_at _ _ h2,hg,wrap_succ (show k + 1 < 9223372036854775808 by omega),ih]
      rw [show k + 1 + (l.drop (k + 1)).findIdx p = k + ((l.drop (k + 1)).findIdx p + 1) by omega]
    · rw [he] at hg
      simp only [slices_IndexFunc_style_set_style_set.B0,beqT,beqF,exF_seq,exF_region,exF_block,exF_cond,exF_ret,exF_exit,exF_skip,runL,wantL,stepL,evL,evC,LEnv.at,putL,loadFine,loadL,cellsAt,Trk.putNew,Trk.up,Trk.touch,Trk.gives,Trk.calm,Trk.hit,opdsOf,Trk.fresh,LEnv.keep,LEnv.ofFrom,List.map_cons,List.map_nil,nbeq,nble,nblt,ofAV,ofAVs,lenL,bin_add,bin_sub,bin_mul,bin_eql,bin_neq,bin_lss,bin_leq,bin_gtr,bin_geq,natL_nat,natL_zero,natL_one,natL_two,Nat.zero_mul,List.any_cons,List.any_nil,Bool.or_false,Bool.false_or,Bool.true_or,Bool.or_true,Bool.and_true,Bool.true_and,Bool.and_false,Bool.false_and,Bool.not_true,Bool.not_false,Nat.reduceBEq,Nat.reduceEqDiff,decide_true,decide_false,cond_true,cond_false,List.filter_nil,List.filter_cons,Nat.reduceAdd,Nat.reduceLeDiff,reduceCtorEq,List.length_nil,List.length_cons,Nat.mul_one,if_true,if_false,Bool.false_eq_true,eq_self,and_true,true_and,retL,resultsL,resAllL,resOfL,List.append_nil,List.nil_append,List.cons_append,true_or,or_true,false_or,or_false,false_and,and_false,not_true_eq_false,not_false_eq_true,ne_eq,unL,trim_nil,views_pures,LV.pures,LV.pure,freeze,Nat.reduceDiv,Int.reduceEq,Int.reduceLT,Int.reduceLE,Int.natCast_zero,LV.cells,allocL,List.getElem?_cons_zero,List.getElem?_cons_succ,storeL,spliceL,List.take_zero,List.take_succ_cons,List.drop_zero,List.drop_succ_cons,List.drop_nil,List.take_nil,Nat.le_refl,Nat.reduceMul,List.set_cons_zero,List.set_cons_succ,LV.scalar,List.all_cons,List.all_nil,Nat.lt_add_one,Nat.zero_lt_one,Nat.reduceLT,Nat.lt_irrefl,fillL,List.length_append,foldIntL,kind_beq,pures_int,solids_int,plains_int,unders_int,scalars_int,show ((k : Int) < (l.length : Int)) by omega,h2,u8_at _ _ h2,hg,Nat.add_zero]
theorem ucontains_c (nl ex : Bool) (sz : Nat) (g : Nat) (cap : List LV) (hp : LV.pures cap = true) (p : Nat → Bool) (l : List Nat) (hl : l.length < 1000000) (hg : ∀ x ∈ l,∀ m,clF LP g (.int .u8 ((x : Nat) : Int) :: cap) m = some (.P,.bool (p x),m)) (m : LMem) :
    clF LP n_slices_ContainsFunc_style_set_style_set [UV nl ex sz l,.func g [] cap] m = some (.P,.bool (l.any p),m) := by
  have hI : ∀ m,clF LP n_slices_IndexFunc_style_set_style_set [UV nl ex sz l,.func g [] cap] m = some (.P,.int .i64 (if l.any p then ((l.findIdx p : Nat) : Int) else -1),m) := fun m => by
    refine call_P lp_slices_IndexFunc_style_set_style_set rfl (by simp only [LV.pures,LV.pure,hp,pures_u8s,Bool.and_self]) (m1 := []) ?_ rfl m
    have h := uindex_loop nl ex sz g cap p l hl hg l.length 0 (by omega)
    simp only [Int.natCast_zero,List.drop_zero,Nat.zero_add] at h
    cases ha : l.any p <;> rw [ha] at h <;> simp only [slices_IndexFunc_style_set_style_set,slices_IndexFunc_style_set_style_set.B,beqT,beqF,exF_seq,exF_region,exF_block,exF_cond,exF_ret,exF_exit,exF_skip,runL,wantL,stepL,evL,evC,LEnv.at,putL,loadFine,loadL,cellsAt,Trk.putNew,Trk.up,Trk.touch,Trk.gives,Trk.calm,Trk.hit,opdsOf,Trk.fresh,LEnv.keep,LEnv.ofFrom,List.map_cons,List.map_nil,nbeq,nble,nblt,ofAV,ofAVs,lenL,bin_add,bin_sub,bin_mul,bin_eql,bin_neq,bin_lss,bin_leq,bin_gtr,bin_geq,natL_nat,natL_zero,natL_one,natL_two,Nat.zero_mul,List.any_cons,List.any_nil,Bool.or_false,Bool.false_or,Bool.true_or,Bool.or_true,Bool.and_true,Bool.true_and,Bool.and_false,Bool.false_and,Bool.not_true,Bool.not_false,Nat.reduceBEq,Nat.reduceEqDiff,decide_true,decide_false,cond_true,cond_false,List.filter_nil,List.filter_cons,Nat.reduceAdd,Nat.reduceLeDiff,reduceCtorEq,List.length_nil,List.length_cons,Nat.mul_one,if_true,if_false,Bool.false_eq_true,eq_self,and_true,true_and,retL,resultsL,resAllL,resOfL,List.append_nil,List.nil_append,List.cons_append,true_or,or_true,false_or,or_false,false_and,and_false,not_true_eq_false,not_false_eq_true,ne_eq,unL,trim_nil,views_pures,LV.pures,LV.pure,freeze,Nat.reduceDiv,Int.reduceEq,Int.reduceLT,Int.reduceLE,Int.natCast_zero,LV.cells,allocL,List.getElem?_cons_zero,List.getElem?_cons_succ,storeL,spliceL,List.take_zero,List.take_succ_cons,List.drop_zero,List.drop_succ_cons,List.drop_nil,List.take_nil,Nat.le_refl,Nat.reduceMul,List.set_cons_zero,List.set_cons_succ,LV.scalar,List.all_cons,List.all_nil,Nat.lt_add_one,Nat.zero_lt_one,Nat.reduceLT,Nat.lt_irrefl,fillL,List.length_append,foldIntL,kind_beq,pures_int,solids_int,plains_int,unders_int,scalars_int,h]
  refine call_P lp_slices_ContainsFunc_style_set_style_set rfl (by simp only [LV.pures,LV.pure,hp,pures_u8s,Bool.and_self]) (m1 := []) ?_ rfl m
  cases ha : l.any p
  · rw [ha] at hI
    simp only [slices_ContainsFunc_style_set_style_set,slices_ContainsFunc_style_set_style_set.B,beqT,beqF,exF_seq,exF_region,exF_block,exF_cond,exF_ret,exF_exit,exF_skip,runL,wantL,stepL,evL,evC,LEnv.at,putL,loadFine,loadL,cellsAt,Trk.putNew,Trk.up,Trk.touch,Trk.gives,Trk.calm,Trk.hit,opdsOf,Trk.fresh,LEnv.keep,LEnv.ofFrom,List.map_cons,List.map_nil,nbeq,nble,nblt,ofAV,ofAVs,lenL,bin_add,bin_sub,bin_mul,bin_eql,bin_neq,bin_lss,bin_leq,bin_gtr,bin_geq,natL_nat,natL_zero,natL_one,natL_two,Nat.zero_mul,List.any_cons,List.any_nil,Bool.or_false,Bool.false_or,Bool.true_or,Bool.or_true,Bool.and_true,Bool.true_and,Bool.and_false,Bool.false_and,Bool.not_true,Bool.not_false,Nat.reduceBEq,Nat.reduceEqDiff,decide_true,decide_false,cond_true,cond_false,List.filter_nil,List.filter_cons,Nat.reduceAdd,Nat.reduceLeDiff,reduceCtorEq,List.length_nil,List.length_cons,Nat.mul_one,if_true,if_false,Bool.false_eq_true,eq_self,and_true,true_and,retL,resultsL,resAllL,resOfL,List.append_nil,List.nil_append,List.cons_append,true_or,or_true,false_or,or_false,false_and,and_false,not_true_eq_false,not_false_eq_true,ne_eq,unL,trim_nil,views_pures,LV.pures,LV.pure,freeze,Nat.reduceDiv,Int.reduceEq,Int.reduceLT,Int.reduceLE,Int.natCast_zero,LV.cells,allocL,List.getElem?_cons_zero,List.getElem?_cons_succ,storeL,spliceL,List.take_zero,List.take_succ_cons,List.drop_zero,List.drop_succ_cons,List.drop_nil,List.take_nil,Nat.le_refl,Nat.reduceMul,List.set_cons_zero,List.set_cons_succ,LV.scalar,List.all_cons,List.all_nil,Nat.lt_add_one,Nat.zero_lt_one,Nat.reduceLT,Nat.lt_irrefl,fillL,List.length_append,foldIntL,kind_beq,pures_int,solids_int,plains_int,unders_int,scalars_int,hI]
  · rw [ha] at hI
    simp only [slices_ContainsFunc_style_set_style_set,slices_ContainsFunc_style_set_style_set.B,beqT,beqF,exF_seq,exF_region,exF_block,exF_cond,exF_ret,exF_exit,exF_skip,runL,wantL,stepL,evL,evC,LEnv.at,putL,loadFine,loadL,cellsAt,Trk.putNew,Trk.up,Trk.touch,Trk.gives,Trk.calm,Trk.hit,opdsOf,Trk.fresh,LEnv.keep,LEnv.ofFrom,List.map_cons,List.map_nil,nbeq,nble,nblt,ofAV,ofAVs,lenL,bin_add,bin_sub,bin_mul,bin_eql,bin_neq,bin_lss,bin_leq,bin_gtr,bin_geq,natL_nat,natL_zero,natL_one,natL_two,Nat.zero_mul,List.any_cons,List.any_nil,Bool.or_false,Bool.false_or,Bool.true_or,Bool.or_true,Bool.and_true,Bool.true_and,Bool.and_false,Bool.false_and,Bool.not_true,Bool.not_false,Nat.reduceBEq,Nat.reduceEqDiff,decide_true,decide_false,cond_true,cond_false,List.filter_nil,List.filter_cons,Nat.reduceAdd,Nat.reduceLeDiff,reduceCtorEq,List.length_nil,List.length_cons,Nat.mul_one,if_true,if_false,Bool.false_eq_true,eq_self,and_true,true_and,retL,resultsL,resAllL,resOfL,List.append_nil,List.nil_append,List.cons_append,true_or,or_true,false_or,or_false,false_and,and_false,not_true_eq_false,not_false_eq_true,ne_eq,unL,trim_nil,views_pures,LV.pures,LV.pure,freeze,Nat.reduceDiv,Int.reduceEq,Int.reduceLT,Int.reduceLE,Int.natCast_zero,LV.cells,allocL,List.getElem?_cons_zero,List.getElem?_cons_succ,storeL,spliceL,List.take_zero,List.take_succ_cons,List.drop_zero,List.drop_succ_cons,List.drop_nil,List.take_nil,Nat.le_refl,Nat.reduceMul,List.set_cons_zero,List.set_cons_succ,LV.scalar,List.all_cons,List.all_nil,Nat.lt_add_one,Nat.zero_lt_one,Nat.reduceLT,Nat.lt_irrefl,fillL,List.length_append,foldIntL,kind_beq,pures_int,solids_int,plains_int,unders_int,scalars_int,hI,show ((l.findIdx p : Nat) : Int) ≥ 0 by omega,show (0 : Int) ≤ ((l.findIdx p : Nat) : Int) by omega]
theorem may1_c {F d x : Nat} (hF : F < 256) (hd : d < 256) (hx : x < 8) (m : LMem) : clF LP n_style_table_may_1 [.int .u8 (F : Int),.elt [.int .u8 (d : Int)] 0,.elt [.int .i64 (x : Int)] 0] m = some (.P,.bool (begB d F && !F.testBit x),m) := by
  have h1 := u8and hF hd
  have h2 := u8andNot (a := F) (b := d)
  have hh := fun m => has_c hF hx m
  have hz := and8_zero d hF
  refine call_P lp_style_table_may_1 rfl (by simp [LV.pures,LV.pure]) (m1 := []) ?_ rfl m
  by_cases c1 : F &&& d = 0
  · have e : begB d F = false := by simp [begB,c1]
    simp only [style_table_may_1,style_table_may_1.B,beqT,beqF,exF_seq,exF_region,exF_block,exF_cond,exF_ret,exF_exit,exF_skip,runL,wantL,stepL,evL,evC,LEnv.at,putL,loadFine,loadL,cellsAt,Trk.putNew,Trk.up,Trk.touch,Trk.gives,Trk.calm,Trk.hit,opdsOf,Trk.fresh,LEnv.keep,LEnv.ofFrom,List.map_cons,List.map_nil,nbeq,nble,nblt,ofAV,ofAVs,lenL,bin_add,bin_sub,bin_mul,bin_eql,bin_neq,bin_lss,bin_leq,bin_gtr,bin_geq,natL_nat,natL_zero,natL_one,natL_two,Nat.zero_mul,List.any_cons,List.any_nil,Bool.or_false,Bool.false_or,Bool.true_or,Bool.or_true,Bool.and_true,Bool.true_and,Bool.and_false,Bool.false_and,Bool.not_true,Bool.not_false,Nat.reduceBEq,Nat.reduceEqDiff,decide_true,decide_false,cond_true,cond_false,List.filter_nil,List.filter_cons,Nat.reduceAdd,Nat.reduceLeDiff,reduceCtorEq,List.length_nil,List.length_cons,Nat.mul_one,if_true,if_false,Bool.false_eq_true,eq_self,and_true,true_and,retL,resultsL,resAllL,resOfL,List.append_nil,List.nil_append,List.cons_append,true_or,or_true,false_or,or_false,false_and,and_false,not_true_eq_false,not_false_eq_true,ne_eq,unL,trim_nil,views_pures,LV.pures,LV.pure,freeze,Nat.reduceDiv,Int.reduceEq,Int.reduceLT,Int.reduceLE,Int.natCast_zero,LV.cells,allocL,List.getElem?_cons_zero,List.getElem?_cons_succ,storeL,spliceL,List.take_zero,List.take_succ_cons,List.drop_zero,List.drop_succ_cons,List.drop_nil,List.take_nil,Nat.le_refl,Nat.reduceMul,List.set_cons_zero,List.set_cons_succ,LV.scalar,List.all_cons,List.all_nil,Nat.lt_add_one,Nat.zero_lt_one,Nat.reduceLT,Nat.lt_irrefl,fillL,List.length_append,foldIntL,kind_beq,pures_int,solids_int,plains_int,unders_int,scalars_int,h1,c1,e]
  · have c1' : ¬ ((F &&& d : Nat) : Int) = 0 := by omega
    by_cases c2 : F &&& d = F
    · have e : begB d F = false := by simp [begB,c2]
      have e2 := hz.2 c2
      simp only [style_table_may_1,style_table_may_1.B,beqT,beqF,exF_seq,exF_region,exF_block,exF_cond,exF_ret,exF_exit,exF_skip,runL,wantL,stepL,evL,evC,LEnv.at,putL,loadFine,loadL,cellsAt,Trk.putNew,Trk.up,Trk.touch,Trk.gives,Trk.calm,Trk.hit,opdsOf,Trk.fresh,LEnv.keep,LEnv.ofFrom,List.map_cons,List.map_nil,nbeq,nble,nblt,ofAV,ofAVs,lenL,bin_add,bin_sub,bin_mul,bin_eql,bin_neq,bin_lss,bin_leq,bin_gtr,bin_geq,natL_nat,natL_zero,natL_one,natL_two,Nat.zero_mul,List.any_cons,List.any_nil,Bool.or_false,Bool.false_or,Bool.true_or,Bool.or_true,Bool.and_true,Bool.true_and,Bool.and_false,Bool.false_and,Bool.not_true,Bool.not_false,Nat.reduceBEq,Nat.reduceEqDiff,decide_true,decide_false,cond_true,cond_false,List.filter_nil,List.filter_cons,Nat.reduceAdd,Nat.reduceLeDiff,reduceCtorEq,List.length_nil,List.length_cons,Nat.mul_one,if_true,if_false,Bool.false_eq_true,eq_self,and_true,true_and,retL,resultsL,resAllL,resOfL,List.append_nil,List.nil_append,List.cons_append,true_or,or_true,false_or,or_false,false_and,and_false,not_true_eq_false,not_false_eq_true,ne_eq,unL,trim_nil,views_pures,LV.pures,LV.pure,freeze,Nat.reduceDiv,Int.reduceEq,Int.reduceLT,Int.reduceLE,Int.natCast_zero,LV.cells,allocL,List.getElem?_cons_zero,List.getElem?_cons_succ,storeL,spliceL,List.take_zero,List.take_succ_cons,List.drop_zero,List.drop_succ_cons,List.drop_nil,List.take_nil,Nat.le_refl,Nat.reduceMul,List.set_cons_zero,List.set_cons_succ,LV.scalar,List.all_cons,List.all_nil,Nat.lt_add_one,Nat.zero_lt_one,Nat.reduceLT,Nat.lt_irrefl,fillL,List.length_append,foldIntL,kind_beq,pures_int,solids_int,plains_int,unders_int,scalars_int,h1,h2,c1',e2,e]
    · have e : begB d F = true := by simp [begB,c1,c2]
      have e2 : ¬ ((and8 F d : Nat) : Int) = 0 := fun h => c2 (hz.1 (by omega))
      simp only [style_table_may_1,style_table_may_1.B,beqT,beqF,exF_seq,exF_region,exF_block,exF_cond,exF_ret,exF_exit,exF_skip,runL,wantL,stepL,evL,evC,LEnv.at,putL,loadFine,loadL,cellsAt,Trk.putNew,Trk.up,Trk.touch,Trk.gives,Trk.calm,Trk.hit,opdsOf,Trk.fresh,LEnv.keep,LEnv.ofFrom,List.map_cons,List.map_nil,nbeq,nble,nblt,ofAV,ofAVs,lenL,bin_add,bin_sub,bin_mul,bin_eql,bin_neq,bin_lss,bin_leq,bin_gtr,bin_geq,natL_nat,natL_zero,natL_one,natL_two,Nat.zero_mul,List.any_cons,List.any_nil,Bool.or_false,Bool.false_or,Bool.true_or,Bool.or_true,Bool.and_true,Bool.true_and,Bool.and_false,Bool.false_and,Bool.not_true,Bool.not_false,Nat.reduceBEq,Nat.reduceEqDiff,decide_true,decide_false,cond_true,cond_false,List.filter_nil,List.filter_cons,Nat.reduceAdd,Nat.reduceLeDiff,reduceCtorEq,List.length_nil,List.length_cons,Nat.mul_one,if_true,if_false,Bool.false_eq_true,eq_self,and_true,true_and,retL,resultsL,resAllL,resOfL,List.append_nil,List.nil_append,List.cons_append,true_or,or_true,false_or,or_false,false_and,and_false,not_true_eq_false,not_false_eq_true,ne_eq,unL,trim_nil,views_pures,LV.pures,LV.pure,freeze,Nat.reduceDiv,Int.reduceEq,Int.reduceLT,Int.reduceLE,Int.natCast_zero,LV.cells,allocL,List.getElem?_cons_zero,List.getElem?_cons_succ,storeL,spliceL,List.take_zero,List.take_succ_cons,List.drop_zero,List.drop_succ_cons,List.drop_nil,List.take_nil,Nat.le_refl,Nat.reduceMul,List.set_cons_zero,List.set_cons_succ,LV.scalar,List.all_cons,List.all_nil,Nat.lt_add_one,Nat.zero_lt_one,Nat.reduceLT,Nat.lt_irrefl,fillL,List.length_append,foldIntL,kind_beq,pures_int,solids_int,plains_int,unders_int,scalars_int,h1,h2,c1',e2,e,hh]
theorem view_fun2 (k : Nat) (m : LMem) (g i j : Nat) (a c : LV) (hi : m[i]? = some ⟨[a],true⟩) (hj : m[j]? = some ⟨[c],true⟩) (ha : a.pure = true) (hc : c.pure = true) : view (k + 8) m (.func g [] [.ptr i 0 1,.ptr j 0 1]) = some (.func g [] [.elt [a] 0,.elt [c] 0],[i,j]) := by
  simp [view,viewL,viewC,LV.pures,LV.pure,hi,hj,ha,hc]
theorem may_c {fs : List Nat} {n d x : Nat} (nl ex : Bool) (sz : Nat) (hl : fs.length < 1000000) (hfs : ∀ F ∈ fs,F < 256) (hd : d < 256) (hx : x < 8) (m : LMem) :
    clF LP n_style_table_may [.agg [.int .i64 (n : Int),UV nl ex sz fs],.int .u8 (d : Int),.int .i64 (x : Int)] m = some (.P,.bool (mayB fs d x),m) := by
  have hh := fun m => has_c hd hx m
  have hC := ucontains_c nl ex sz n_style_table_may_1 [.elt [.int .u8 (d : Int)] 0,.elt [.int .i64 (x : Int)] 0] (by simp [LV.pures,LV.pure]) (fun F => begB d F && !F.testBit x) fs hl (fun F hF m => may1_c (hfs F hF) hd hx m) []
  have hv : clF LP n_slices_ContainsFunc_style_set_style_set [UV nl ex sz fs,.func n_style_table_may_1 [] [.ptr 1 0 1,.ptr 2 0 1]] [⟨[.int .i64 (n : Int),UV nl ex sz fs],true⟩,⟨[.int .u8 (d : Int)],true⟩,⟨[.int .i64 (x : Int)],true⟩] = some (.P,.bool (fs.any fun F => begB d F && !F.testBit x),[⟨[.int .i64 (n : Int),UV nl ex sz fs],true⟩,⟨[.int .u8 (d : Int)],true⟩,⟨[.int .i64 (x : Int)],true⟩]) := by
    refine call_view lp_slices_ContainsFunc_style_set_style_set rfl (ids := [1,2]) ?_ ?_ hC rfl
    · exact views_snd8 84 _ _ _ _ _ (fun k => view_fun2 k _ _ 1 2 _ _ rfl rfl rfl rfl) (by simp only [LV.pure,pures_u8s]) (by simp [LV.pures,LV.pure])
    · simp only [LV.pures,LV.pure,pures_u8s,Bool.and_self]
  refine call_P lp_style_table_may rfl (by simp only [LV.pures,LV.pure,pures_u8s,Bool.and_self]) (m1 := [⟨[.int .i64 (n : Int),UV nl ex sz fs],true⟩,⟨[.int .u8 (d : Int)],true⟩,⟨[.int .i64 (x : Int)],true⟩]) ?_ rfl m
  unfold mayB
  cases h1 : d.testBit x
  · rw [h1] at hh
    simp only [style_table_may,style_table_may.B,beqT,beqF,exF_seq,exF_region,exF_block,exF_cond,exF_ret,exF_exit,exF_skip,runL,wantL,stepL,evL,evC,LEnv.at,putL,loadFine,loadL,cellsAt,Trk.putNew,Trk.up,Trk.touch,Trk.gives,Trk.calm,Trk.hit,opdsOf,Trk.fresh,LEnv.keep,LEnv.ofFrom,List.map_cons,List.map_nil,nbeq,nble,nblt,ofAV,ofAVs,lenL,bin_add,bin_sub,bin_mul,bin_eql,bin_neq,bin_lss,bin_leq,bin_gtr,bin_geq,natL_nat,natL_zero,natL_one,natL_two,Nat.zero_mul,List.any_cons,List.any_nil,Bool.or_false,Bool.false_or,Bool.true_or,Bool.or_true,Bool.and_true,Bool.true_and,Bool.and_false,Bool.false_and,Bool.not_true,Bool.not_false,Nat.reduceBEq,Nat.reduceEqDiff,decide_true,decide_false,cond_true,cond_false,List.filter_nil,List.filter_cons,Nat.reduceAdd,Nat.reduceLeDiff,reduceCtorEq,List.length_nil,List.length_cons,Nat.mul_one,if_true,if_false,Bool.false_eq_true,eq_self,and_true,true_and,retL,resultsL,resAllL,resOfL,List.append_nil,List.nil_append,List.cons_append,true_or,or_true,false_or,or_false,false_and,and_false,not_true_eq_false,not_false_eq_true,ne_eq,unL,trim_nil,views_pures,LV.pures,LV.pure,freeze,Nat.reduceDiv,Int.reduceEq,Int.reduceLT,Int.reduceLE,Int.natCast_zero,LV.cells,allocL,List.getElem?_cons_zero,List.getElem?_cons_succ,storeL,spliceL,List.take_zero,List.take_succ_cons,List.drop_zero,List.drop_succ_cons,List.drop_nil,List.take_nil,Nat.le_refl,Nat.reduceMul,List.set_cons_zero,List.set_cons_succ,LV.scalar,List.all_cons,List.all_nil,Nat.lt_add_one,Nat.zero_lt_one,Nat.reduceLT,Nat.lt_irrefl,fillL,List.length_append,foldIntL,kind_beq,pures_int,solids_int,plains_int,unders_int,scalars_int,hh,hv]
  · rw [h1] at hh
    simp only [style_table_may,style_table_may.B,beqT,beqF,exF_seq,exF_region,exF_block,exF_cond,exF_ret,exF_exit,exF_skip,runL,wantL,stepL,evL,evC,LEnv.at,putL,loadFine,loadL,cellsAt,Trk.putNew,Trk.up,Trk.touch,Trk.gives,Trk.calm,Trk.hit,opdsOf,Trk.fresh,LEnv.keep,LEnv.ofFrom,List.map_cons,List.map_nil,nbeq,nble,nblt,ofAV,ofAVs,lenL,bin_add,bin_sub,bin_mul,bin_eql,bin_neq,bin_lss,bin_leq,bin_gtr,bin_geq,natL_nat,natL_zero,natL_one,natL_two,Nat.zero_mul,List.any_cons,List.any_nil,Bool.or_false,Bool.false_or,Bool.true_or,Bool.or_true,Bool.and_true,Bool.true_and,Bool.and_false,Bool.false_and,Bool.not_true,Bool.not_false,Nat.reduceBEq,Nat.reduceEqDiff,decide_true,decide_false,cond_true,cond_false,List.filter_nil,List.filter_cons,Nat.reduceAdd,Nat.reduceLeDiff,reduceCtorEq,List.length_nil,List.length_cons,Nat.mul_one,if_true,if_false,Bool.false_eq_true,eq_self,and_true,true_and,retL,resultsL,resAllL,resOfL,List.append_nil,List.nil_append,List.cons_append,true_or,or_true,false_or,or_false,false_and,and_false,not_true_eq_false,not_false_eq_true,ne_eq,unL,trim_nil,views_pures,LV.pures,LV.pure,freeze,Nat.reduceDiv,Int.reduceEq,Int.reduceLT,Int.reduceLE,Int.natCast_zero,LV.cells,allocL,List.getElem?_cons_zero,List.getElem?_cons_succ,storeL,spliceL,List.take_zero,List.take_succ_cons,List.drop_zero,List.drop_succ_cons,List.drop_nil,List.take_nil,Nat.le_refl,Nat.reduceMul,List.set_cons_zero,List.set_cons_succ,LV.scalar,List.all_cons,List.all_nil,Nat.lt_add_one,Nat.zero_lt_one,Nat.reduceLT,Nat.lt_irrefl,fillL,List.length_append,foldIntL,kind_beq,pures_int,solids_int,plains_int,unders_int,scalars_int,hh]
end Go.Am.Top
set_option linter.unusedVariables false
set_option linter.unusedSimpArgs false
set_option maxRecDepth 10000
namespace Go.Am.Top
open Go.Am.G
theorem set_at (L : List Int) (i : Nat) (v : Int) (h : i < L.length) : ((L.set i v).map (LV.int .i64))[i]? = some (.int .i64 v) := by simp [h]
theorem set_other (L : List Int) (i j : Nat) (v w : Int) (hj : L[j]? = some w) (h : i ≠ j) : ((L.set i v).map (LV.int .i64))[j]? = some (.int .i64 w) := by
  rw [List.getElem?_map,List.getElem?_set,if_neg h,hj]; rfl
theorem set_again (L : List Int) (i : Nat) (v u : Int) (h : i < L.length) : ((L.set i v).map (LV.int .i64)).take i ++ [.int .i64 u] ++ ((L.set i v).map (LV.int .i64)).drop (i + 1) = (L.set i u).map (LV.int .i64) := by
  rw [set_int .i64 (L.set i v) i u (by simpa using h),List.set_set]
theorem set_mlen (L : List Int) (i : Nat) (v : Int) : ((L.set i v).map (LV.int .i64)).length = L.length := by simp
def Et (fs : List Nat) (n S k : Nat) : List Int := (List.range S).map fun d => if k ≤ d then ((en (mayB fs) n d : Nat) : Int) else 0
theorem Et_len (fs : List Nat) (n S k : Nat) : (Et fs n S k).length = S := by simp [Et]
theorem Et_at (fs : List Nat) (n S k d : Nat) (h : d < S) (hk : k ≤ d) : (Et fs n S k)[d]? = some ((en (mayB fs) n d : Nat) : Int) := by simp [Et,h,hk]
theorem Et_set (fs : List Nat) (n S k : Nat) : (Et fs n S (k + 1)).set k ((en (mayB fs) n k : Nat) : Int) = Et fs n S k := by
  apply List.ext_getElem?
  intro i
  rw [List.getElem?_set,Et_len]
  by_cases hi : i < S
  · by_cases c : k = i
    · subst c; simp [hi,Et]
    · simp [c,Et,hi]
      by_cases c2 : k ≤ i
      · rw [if_pos (by omega),if_pos c2]
      · rw [if_neg (by omega),if_neg c2]
  · rw [List.getElem?_eq_none (by rw [Et_len]; omega),List.getElem?_eq_none (by rw [Et_len]; omega)]
    split
    · split
      · omega
      · rfl
    · rfl
theorem Et_zero (fs : List Nat) (n S k : Nat) : (Et fs n S (k + 1)).set k 0 = Et fs n S (k + 1) := by
  apply List.ext_getElem?
  intro i
  rw [List.getElem?_set,Et_len]
  by_cases hi : i < S
  · by_cases c : k = i
    · subst c
      simp [hi,Et]
      intro h; omega
    · simp [c]
  · rw [List.getElem?_eq_none (l := Et fs n S (k + 1)) (by rw [Et_len]; omega)]
    split
    · split
      · omega
      · rfl
    · rfl
theorem Et_top (fs : List Nat) (n A : Nat) (hA : 2 ^ n = A + 1) : Et fs n (A + 1) A = (List.replicate (A + 1) (0 : Int)).set A 1 := by
  apply List.ext_getElem?
  intro i
  rw [List.getElem?_set]
  by_cases hi : i < A + 1
  · have e := en_all (mayB fs) n
    rw [show 2 ^ n - 1 = A by omega] at e
    by_cases c : A ≤ i
    · obtain rfl : i = A := by omega
      rw [Et_at _ _ _ _ _ hi c,e]; simp
    · simp [Et,hi,c]
      intro c2; omega
  · rw [List.getElem?_eq_none (by rw [Et_len]; omega),if_neg (by omega),List.getElem?_eq_none (by simp; omega)]
def ME' (n : Nat) (V : LV) (L : List Int) : LMem := [⟨[.int .i64 (n : Int),V],true⟩,⟨L.map (LV.int .i64),true⟩]
theorem end0_loop {fs : List Nat} {n : Nat} (nl ex : Bool) (sz : Nat) (hn : n ≤ 7) (hl : fs.length < 1000000) (hfs : ∀ F ∈ fs,F < 256) (S : Nat) (hS : S = 2 ^ n) (L : List Int) (hL : L.length = S) (d : Nat) (hd : d < S)
    (hLn : ∀ x,d < x → x < S → L[x]? = some ((en (mayB fs) n x : Nat) : Int)) (t : Nat) : ∀ (k acc : Nat),k + t = n → acc = (List.range k).foldl (estep (mayB fs) (en (mayB fs) n) d) 0 →
    exF LP style_table_endings.L0 [(1,.ptr 0 0 2),(3,.sl 1 0 S S 0 1 S),(4,.int .i64 (d : Int)),(23,.int .i64 (n : Int)),(24,.int .i64 (k : Int))] (ME' n (UV nl ex sz fs) (L.set d (acc : Int))) =
      some (.exit 2,[(1,.ptr 0 0 2),(3,.sl 1 0 S S 0 1 S),(4,.int .i64 (d : Int))],ME' n (UV nl ex sz fs) (L.set d (((List.range n).foldl (estep (mayB fs) (en (mayB fs) n) d) 0 : Nat) : Int))) := by
  have hS7 : S ≤ 128 := by
    have : 2 ^ n ≤ 2 ^ 7 := Nat.pow_le_pow_right (by omega) hn
    omega
  induction t with
  | zero =>
    intro k acc hk ha
    obtain rfl : k = n := by omega
    rw [style_table_endings.L0_eq,← ha]
    simp only [style_table_endings.B0,exF_seq,exF_region,exF_cond,exF_exit,runL,wantL,stepL,evL,LEnv.at,putL,loadFine,LEnv.keep,List.map_cons,List.map_nil,nbeq,bin_lss,Nat.reduceEqDiff,decide_true,decide_false,cond_true,cond_false,eq_self,Int.lt_irrefl]
  | succ t ih =>
    intro k acc hk ha
    have h2 : k < n := by omega
    have ih := fun acc' h => ih (k + 1) acc' (by omega) h
    have hacc : acc ≤ k * 823543 := by
      have := efold_le (mayB fs) (en (mayB fs) n) d 823543 (fun x => en_le _ _ hn x) (List.range k) 0
      rw [ha]
      simpa using this
    have hk7 : k * 823543 ≤ 7 * 823543 := Nat.mul_le_mul_right _ (by omega)
    have hki : (k : Int) < (n : Int) := by omega
    have wk := wrap_succ (show k + 1 < 9223372036854775808 by omega)
    have hu := u8w (n := d) (by omega)
    have hm := fun m => may_c (fs := fs) (n := n) (d := d) (x := k) nl ex sz hl hfs (by omega) (by omega) m
    rw [List.range_succ,List.foldl_append,List.foldl_cons,List.foldl_nil,← ha] at ih
    rw [style_table_endings.L0_eq]
    cases hb : mayB fs d k
    · rw [hb] at hm
      have ih := ih acc (by simp [estep,hb])
      simp only [ME'] at ih ⊢
      simp only [style_table_endings.B0,exF_seq,exF_region,exF_block,exF_cond,exF_skip,runL,wantL,stepL,evL,evC,LEnv.at,putL,loadFine,loadL,cellsAt,Trk.calm,Trk.hit,LEnv.keep,List.map_cons,List.map_nil,nbeq,nble,ofAVs,bin_add,bin_lss,List.any_nil,Bool.or_false,Bool.or_true,Bool.and_true,Bool.false_and,Bool.not_true,Bool.not_false,Nat.reduceEqDiff,decide_true,decide_false,cond_true,cond_false,Nat.reduceAdd,Nat.reduceLeDiff,List.length_nil,List.length_cons,eq_self,List.append_nil,List.nil_append,List.getElem?_cons_zero,List.take_succ_cons,List.drop_zero,List.take_nil,Nat.le_refl,hki,hu,hm,wk,ih]
    · rw [hb] at hm
      have hbit := mayB_bit d k hb
      have hnl := next_lt d k n (by omega) h2
      have hgt := next_gt d k hbit
      have hne := hLn _ hgt (by omega)
      have hle := en_le (mayB fs) n hn (d ||| 2 ^ k)
      have ih := ih (acc + en (mayB fs) n (d ||| 2 ^ k)) (by simp [estep,hb])
      have hsl := sshl (i := k) (by omega)
      have hp2 : (2 : Nat) ^ k < 128 := Nat.lt_of_lt_of_le (Nat.pow_lt_pow_right (by omega) h2) (by omega)
      have hor := sor (a := d) (b := 2 ^ k) (by omega) (by omega)
      have a1 := fun v => set_at L d v (by omega)
      have a2 := fun v => set_other L d _ v _ hne (by omega)
      have a3 := fun v => set_mlen L d v
      have a4 := fun v u => set_again L d v u (by omega)
      rw [hL] at a3
      have hww : IntKind.i64.wrap ((acc : Int) + ((en (mayB fs) n (d ||| 2 ^ k) : Nat) : Int)) = ((acc + en (mayB fs) n (d ||| 2 ^ k) : Nat) : Int) := by
        rw [wrap_in (by omega)]; omega
      have hnS : d ||| 2 ^ k < S := by rw [hS]; exact hnl
      simp only [ME'] at ih ⊢
      simp only [style_table_endings.B0,exF_seq,exF_region,exF_block,exF_cond,exF_skip,runL,wantL,stepL,evL,evC,LEnv.at,putL,loadFine,loadL,cellsAt,Trk.putNew,Trk.up,Trk.touch,Trk.gives,Trk.calm,Trk.hit,opdsOf,Trk.fresh,LEnv.keep,List.map_cons,List.map_nil,nbeq,nble,nblt,ofAVs,bin_add,bin_lss,natL_nat,List.any_cons,List.any_nil,Bool.or_false,Bool.or_true,Bool.and_true,Bool.false_and,Bool.not_true,Bool.not_false,Nat.reduceEqDiff,decide_true,decide_false,cond_true,cond_false,List.filter_nil,Nat.reduceAdd,Nat.reduceLeDiff,reduceCtorEq,List.length_nil,List.length_cons,Nat.mul_one,eq_self,List.append_nil,List.nil_append,LV.cells,List.getElem?_cons_zero,List.getElem?_cons_succ,storeL,spliceL,List.take_succ_cons,List.drop_zero,List.take_nil,Nat.le_refl,List.set_cons_zero,List.set_cons_succ,LV.scalar,List.all_cons,List.all_nil,hki,hu,hm,hsl,hor,a1,a2,a3,a4,hd,hnS,Nat.zero_add,show d + 1 ≤ S by omega,hww,wk,ih]
theorem end1_loop {fs : List Nat} {n : Nat} (nl ex : Bool) (sz : Nat) (hn : n ≤ 7) (hl : fs.length < 1000000) (hfs : ∀ F ∈ fs,F < 256) (A : Nat) (hA : 2 ^ n = A + 1) : ∀ (k : Nat),k ≤ A →
    exF LP style_table_endings.L1 [(1,.ptr 0 0 2),(3,.sl 1 0 (A + 1) (A + 1) 0 1 (A + 1)),(4,.int .i64 ((k : Int) - 1))] (ME' n (UV nl ex sz fs) (Et fs n (A + 1) k)) =
      some (.exit 0,[(3,.sl 1 0 (A + 1) (A + 1) 0 1 (A + 1))],ME' n (UV nl ex sz fs) (Et fs n (A + 1) 0)) := by
  have hA7 : A + 1 ≤ 128 := by
    have : 2 ^ n ≤ 2 ^ 7 := Nat.pow_le_pow_right (by omega) hn
    omega
  intro k
  induction k with
  | zero =>
    intro _
    rw [style_table_endings.L1_eq]
    simp only [style_table_endings.B1,exF_seq,exF_region,exF_cond,exF_exit,runL,wantL,stepL,evL,evC,LEnv.at,putL,loadFine,LEnv.keep,List.map_cons,List.map_nil,nbeq,bin_geq,Nat.reduceEqDiff,decide_true,decide_false,cond_true,cond_false,eq_self,Int.natCast_zero,ME',show ¬ ((0 : Int) ≤ (0 : Int) - 1) by omega]
  | succ k ih =>
    intro hk
    have ih := ih (by omega)
    have h1 := end0_loop nl ex sz hn hl hfs (A + 1) hA.symm (Et fs n (A + 1) (k + 1)) (Et_len _ _ _ _) k (by omega) (fun x h1 h2 => Et_at _ _ _ _ _ h2 (by omega)) n 0 0 (by omega) rfl
    rw [← en_eq (mayB fs) n mayB_bit k (by omega),Et_set] at h1
    simp only [Int.natCast_zero,Et_zero] at h1
    have hki : (((k + 1 : Nat) : Int) - 1) = (k : Int) := by omega
    have hw : IntKind.i64.wrap ((k : Int) - 1) = (k : Int) - 1 := wrap_in (by omega)
    rw [style_table_endings.L1_eq]
    simp only [ME'] at h1 ih ⊢
    simp only [style_table_endings.B1,exF_seq,exF_region,exF_block,exF_cond,exF_skip,runL,wantL,stepL,evL,evC,LEnv.at,putL,loadFine,loadL,cellsAt,Trk.putNew,Trk.up,Trk.touch,Trk.gives,Trk.calm,Trk.hit,opdsOf,Trk.fresh,LEnv.keep,List.map_cons,List.map_nil,nbeq,nble,bin_sub,bin_geq,List.any_cons,List.any_nil,Bool.or_false,Bool.or_true,Bool.and_true,Bool.false_and,Bool.not_true,Bool.not_false,Nat.reduceEqDiff,decide_true,decide_false,cond_true,cond_false,List.filter_nil,Nat.reduceAdd,Nat.reduceLeDiff,List.length_nil,List.length_cons,eq_self,List.getElem?_cons_zero,List.take_zero,List.take_succ_cons,List.drop_zero,hki,show (0 : Int) ≤ (k : Int) by omega,h1,hw,ih]
theorem endings_c {fs : List Nat} {n : Nat} (nl ex : Bool) (sz : Nat) (hn : n ≤ 7) (hl : fs.length < 1000000) (hfs : ∀ F ∈ fs,F < 256) (m : LMem) :
    clF LP n_style_table_endings [.agg [.int .i64 (n : Int),UV nl ex sz fs]] m = some (.P,IL false true 1 (Et fs n (2 ^ n) 0),m) := by
  obtain ⟨A,hA⟩ : ∃ A,2 ^ n = A + 1 := ⟨2 ^ n - 1,by have := Nat.two_pow_pos n; omega⟩
  have hA7 : A + 1 ≤ 128 := by
    have : 2 ^ n ≤ 2 ^ 7 := Nat.pow_le_pow_right (by omega) hn
    omega
  have h1 := end1_loop nl ex sz hn hl hfs A hA A (Nat.le_refl _)
  rw [hA]
  have hEl := Et_len fs n (A + 1) 0
  have hv : view 100 (ME' n (UV nl ex sz fs) (Et fs n (A + 1) 0)) (.sl 1 0 (A + 1) (A + 1) 0 1 (A + 1)) = some (IL false true 1 (Et fs n (A + 1) 0),[1]) := by
    have := view_sl 97 (ME' n (UV nl ex sz fs) (Et fs n (A + 1) 0)) 1 0 (A + 1) (A + 1) 0 (Et fs n (A + 1) 0) true rfl hEl (by omega) (A + 1) (Nat.le_refl _)
    rw [this,List.drop_zero,List.take_of_length_le (by omega)]
    simp [nbeq]
  refine call_Pv lp_style_table_endings rfl (by simp only [LV.pures,LV.pure,Bool.and_self]) (m1 := ME' n (UV nl ex sz fs) (Et fs n (A + 1) 0)) ?_ hv m
  have hsl := sshl (i := n) (by omega)
  rw [hA] at hsl
  have hw1 : IntKind.i64.wrap (((A + 1 : Nat) : Int) - 1) = ((A : Nat) : Int) := by rw [wrap_in (by omega)]; omega
  have hw2 : IntKind.i64.wrap (((A + 1 : Nat) : Int) - 2) = (A : Int) - 1 := by rw [wrap_in (by omega)]; omega
  have hst := set_int .i64 (List.replicate (A + 1) 0) A 1 (by simp)
  rw [← Et_top fs n A hA] at hst
  have hzl : ((List.replicate (A + 1) (0 : Int)).map (LV.int .i64)).length = A + 1 := by simp
  simp only [ME'] at h1 ⊢
  simp only [style_table_endings,style_table_endings.B,exF_seq,exF_region,exF_block,exF_ret,runL,wantL,stepL,evL,evC,LEnv.at,putL,loadFine,loadL,cellsAt,Trk.putNew,Trk.up,Trk.touch,Trk.gives,Trk.calm,Trk.hit,opdsOf,Trk.fresh,LEnv.keep,LEnv.ofFrom,List.map_cons,List.map_nil,nbeq,nble,nblt,ofAV,ofAVs,lenL,bin_sub,natL_nat,List.any_cons,List.any_nil,Bool.or_false,Bool.or_true,Bool.and_true,Bool.false_and,Bool.not_true,Bool.not_false,Nat.reduceEqDiff,decide_true,decide_false,cond_true,cond_false,List.filter_nil,Nat.reduceAdd,Nat.reduceLeDiff,reduceCtorEq,List.length_nil,List.length_cons,Nat.mul_one,eq_self,retL,resultsL,resAllL,resOfL,List.nil_append,List.cons_append,LV.cells,allocL,List.getElem?_cons_zero,List.getElem?_cons_succ,storeL,spliceL,List.take_zero,List.take_succ_cons,List.drop_zero,Nat.le_refl,List.set_cons_zero,List.set_cons_succ,LV.scalar,List.all_cons,List.all_nil,Nat.lt_add_one,hsl,zeros_int,hzl,hw1,hw2,hst,show (A + 1) * 8 ≤ roomMost by unfold roomMost; omega,show A + 1 ≤ roomMost by unfold roomMost; omega,Nat.zero_add,h1]
theorem count_c {fs : List Nat} {n : Nat} (nl ex : Bool) (sz : Nat) (hn : n ≤ 7) (hl : fs.length < 1000000) (hfs : ∀ F ∈ fs,F < 256) (m : LMem) :
    clF LP n_style_table_count [.agg [.int .i64 (n : Int),UV nl ex sz fs]] m = some (.P,.int .i64 ((en (mayB fs) n 0 : Nat) : Int),m) := by
  have he := fun m => endings_c (fs := fs) (n := n) nl ex sz hn hl hfs m
  have hp := Nat.two_pow_pos n
  have hat : ((Et fs n (2 ^ n) 0).map (LV.int .i64))[0]? = some (.int .i64 ((en (mayB fs) n 0 : Nat) : Int)) := by
    rw [List.getElem?_map,Et_at fs n (2 ^ n) 0 0 hp (Nat.le_refl _)]; rfl
  refine call_P lp_style_table_count rfl (by simp only [LV.pures,LV.pure,Bool.and_self]) (m1 := [⟨[.int .i64 (n : Int),UV nl ex sz fs],true⟩]) ?_ rfl m
  have hlen := Et_len fs n (2 ^ n) 0
  simp only [style_table_count,style_table_count.B,exF_seq,exF_region,exF_ret,runL,wantL,stepL,evL,evC,LEnv.at,putL,loadFine,loadL,cellsAt,Trk.putNew,Trk.up,Trk.touch,Trk.gives,Trk.calm,Trk.hit,opdsOf,Trk.fresh,LEnv.keep,LEnv.ofFrom,List.map_cons,List.map_nil,nbeq,nble,nblt,ofAVs,natL_zero,List.any_cons,List.any_nil,Bool.or_false,Bool.true_or,Bool.or_true,Bool.and_true,Bool.true_and,Bool.false_and,Bool.not_true,Bool.not_false,Nat.reduceEqDiff,decide_true,decide_false,cond_true,cond_false,List.filter_nil,List.filter_cons,Nat.reduceAdd,Nat.reduceLeDiff,reduceCtorEq,List.length_nil,List.length_cons,Nat.mul_one,if_true,eq_self,retL,resultsL,resAllL,resOfL,List.append_nil,List.nil_append,LV.cells,allocL,List.getElem?_cons_zero,List.take_succ_cons,List.drop_zero,List.take_nil,Nat.le_refl,he,hlen,hp,hat]
end Go.Am.Top
