/-
  What functions of chapter 01 compute, 2: what lies beside a place is gone through, by anybody who asks.
-/
import Derived.Test.YtoppeojgadbjeaaTopB
set_option linter.unusedVariables false
set_option linter.unusedSimpArgs false
set_option maxRecDepth 10000
namespace Go.Am.Top
open Go.Am.G
abbrev nbI (p c : Nat) : List Int := [(p : Int) - (c : Int),(p : Int) - 1,(p : Int) + 1,(p : Int) + (c : Int)]
def skipB (p c N k : Nat) (x : Int) : Bool := decide (x < 0) || decide ((N : Int) ≤ x) || (decide (k = 1) && decide (p % c = 0)) || (decide (k = 2) && decide (x.tmod c = 0))
abbrev BE (Y : LV) (p r c : Nat) (nl ex : Bool) (sz : Nat) (hs : List Int) (k : Nat) : LEnv :=
  [(0,Y),(1,.elt [.int .i64 (p : Int)] 0),(2,.elt (SH r c nl ex sz hs) 0),(18,.agg ((nbI p c).map (LV.int .i64))),(19,.int .i64 (k : Int))]
theorem bes_skip (Y : LV) {r c : Nat} {hs : List Int} (S : Sho r c hs) (nl ex : Bool) (sz p k : Nat) (x : Int) (hk : k < 4) (hx : ((nbI p c).map (LV.int .i64))[k]? = some (.int .i64 x)) (hs' : skipB p c hs.length k x = true) (m : LMem) :
    exF LP ebb_Shore_beside_1.L0 (BE Y p r c nl ex sz hs k) m = exF LP ebb_Shore_beside_1.L0 (BE Y p r c nl ex sz hs (k + 1)) m := by
  have hr := fun m => river_c r c hs nl ex sz m
  have hc0 : (c : Int) ≠ 0 := by have := S.cb.1; omega
  have hrem := bin_rem .i64 (p : Int) (c : Int) hc0
  have hrem2 := bin_rem .i64 x (c : Int) hc0
  rw [tmod_nat] at hrem
  have hkl : (k : Int) < 4 := by omega
  have hw := wrap_succ (show k + 1 < 9223372036854775808 by omega)
  rw [ebb_Shore_beside_1.L0_eq]
  simp only [BE] at hx ⊢
  generalize (nbI p c).map (LV.int .i64) = A at *
  unfold skipB at hs'
  by_cases h1 : x < 0
  · simp only [ebb_Shore_beside_1.B0,beqT,beqF,exF_seq,exF_region,exF_block,exF_cond,exF_ret,exF_exit,exF_skip,runL,wantL,stepL,evL,evC,LEnv.at,putL,loadFine,loadL,cellsAt,Trk.putNew,Trk.up,Trk.touch,Trk.gives,Trk.calm,Trk.hit,opdsOf,Trk.fresh,LEnv.keep,LEnv.ofFrom,List.map_cons,List.map_nil,nbeq,nble,nblt,ofAV,ofAVs,lenL,bin_add,bin_sub,bin_mul,bin_eql,bin_neq,bin_lss,bin_leq,bin_gtr,bin_geq,natL_nat,natL_zero,natL_one,natL_two,Nat.zero_mul,List.any_cons,List.any_nil,Bool.or_false,Bool.false_or,Bool.true_or,Bool.or_true,Bool.and_true,Bool.true_and,Bool.and_false,Bool.false_and,Bool.not_true,Bool.not_false,Nat.reduceBEq,Nat.reduceEqDiff,decide_true,decide_false,cond_true,cond_false,List.filter_nil,List.filter_cons,Nat.reduceAdd,Nat.reduceLeDiff,reduceCtorEq,List.length_nil,List.length_cons,Nat.mul_one,if_true,if_false,Bool.false_eq_true,eq_self,and_true,true_and,retL,resultsL,resAllL,resOfL,List.append_nil,List.nil_append,List.cons_append,true_or,or_true,false_or,or_false,false_and,and_false,not_true_eq_false,not_false_eq_true,ne_eq,unL,trim_nil,views_pures,LV.pures,LV.pure,freeze,Nat.reduceDiv,Int.reduceEq,Int.reduceLT,Int.reduceLE,Int.natCast_zero,LV.cells,allocL,List.getElem?_cons_zero,List.getElem?_cons_succ,storeL,spliceL,List.take_zero,List.take_succ_cons,List.drop_zero,List.drop_succ_cons,List.drop_nil,List.take_nil,Nat.le_refl,Nat.reduceMul,List.set_cons_zero,List.set_cons_succ,LV.scalar,List.all_cons,List.all_nil,Nat.lt_add_one,Nat.zero_lt_one,Nat.reduceLT,Nat.lt_irrefl,fillL,List.length_append,foldIntL,kind_beq,pures_int,solids_int,plains_int,unders_int,scalars_int,hkl,hk,hx,h1,hw]
  · by_cases h2 : (hs.length : Int) ≤ x
    · simp only [ebb_Shore_beside_1.B0,beqT,beqF,exF_seq,exF_region,exF_block,exF_cond,exF_ret,exF_exit,exF_skip,runL,wantL,stepL,evL,evC,LEnv.at,putL,loadFine,loadL,cellsAt,Trk.putNew,Trk.up,Trk.touch,Trk.gives,Trk.calm,Trk.hit,opdsOf,Trk.fresh,LEnv.keep,LEnv.ofFrom,List.map_cons,List.map_nil,nbeq,nble,nblt,ofAV,ofAVs,lenL,bin_add,bin_sub,bin_mul,bin_eql,bin_neq,bin_lss,bin_leq,bin_gtr,bin_geq,natL_nat,natL_zero,natL_one,natL_two,Nat.zero_mul,List.any_cons,List.any_nil,Bool.or_false,Bool.false_or,Bool.true_or,Bool.or_true,Bool.and_true,Bool.true_and,Bool.and_false,Bool.false_and,Bool.not_true,Bool.not_false,Nat.reduceBEq,Nat.reduceEqDiff,decide_true,decide_false,cond_true,cond_false,List.filter_nil,List.filter_cons,Nat.reduceAdd,Nat.reduceLeDiff,reduceCtorEq,List.length_nil,List.length_cons,Nat.mul_one,if_true,if_false,Bool.false_eq_true,eq_self,and_true,true_and,retL,resultsL,resAllL,resOfL,List.append_nil,List.nil_append,List.cons_append,true_or,or_true,false_or,or_false,false_and,and_false,not_true_eq_false,not_false_eq_true,ne_eq,unL,trim_nil,views_pures,LV.pures,LV.pure,freeze,Nat.reduceDiv,Int.reduceEq,Int.reduceLT,Int.reduceLE,Int.natCast_zero,LV.cells,allocL,List.getElem?_cons_zero,List.getElem?_cons_succ,storeL,spliceL,List.take_zero,List.take_succ_cons,List.drop_zero,List.drop_succ_cons,List.drop_nil,List.take_nil,Nat.le_refl,Nat.reduceMul,List.set_cons_zero,List.set_cons_succ,LV.scalar,List.all_cons,List.all_nil,Nat.lt_add_one,Nat.zero_lt_one,Nat.reduceLT,Nat.lt_irrefl,fillL,List.length_append,foldIntL,kind_beq,pures_int,solids_int,plains_int,unders_int,scalars_int,hkl,hk,hx,h1,hr,h2,show x ≥ (hs.length : Int) by omega,hw]
    · simp only [h1,h2,decide_false,Bool.false_or,Bool.or_eq_true,Bool.and_eq_true,decide_eq_true_eq] at hs'
      rcases hs' with ⟨rfl,h⟩ | ⟨rfl,h⟩
      · simp only [ebb_Shore_beside_1.B0,beqT,beqF,exF_seq,exF_region,exF_block,exF_cond,exF_ret,exF_exit,exF_skip,runL,wantL,stepL,evL,evC,LEnv.at,putL,loadFine,loadL,cellsAt,Trk.putNew,Trk.up,Trk.touch,Trk.gives,Trk.calm,Trk.hit,opdsOf,Trk.fresh,LEnv.keep,LEnv.ofFrom,List.map_cons,List.map_nil,nbeq,nble,nblt,ofAV,ofAVs,lenL,bin_add,bin_sub,bin_mul,bin_eql,bin_neq,bin_lss,bin_leq,bin_gtr,bin_geq,natL_nat,natL_zero,natL_one,natL_two,Nat.zero_mul,List.any_cons,List.any_nil,Bool.or_false,Bool.false_or,Bool.true_or,Bool.or_true,Bool.and_true,Bool.true_and,Bool.and_false,Bool.false_and,Bool.not_true,Bool.not_false,Nat.reduceBEq,Nat.reduceEqDiff,decide_true,decide_false,cond_true,cond_false,List.filter_nil,List.filter_cons,Nat.reduceAdd,Nat.reduceLeDiff,reduceCtorEq,List.length_nil,List.length_cons,Nat.mul_one,if_true,if_false,Bool.false_eq_true,eq_self,and_true,true_and,retL,resultsL,resAllL,resOfL,List.append_nil,List.nil_append,List.cons_append,true_or,or_true,false_or,or_false,false_and,and_false,not_true_eq_false,not_false_eq_true,ne_eq,unL,trim_nil,views_pures,LV.pures,LV.pure,freeze,Nat.reduceDiv,Int.reduceEq,Int.reduceLT,Int.reduceLE,Int.natCast_zero,LV.cells,allocL,List.getElem?_cons_zero,List.getElem?_cons_succ,storeL,spliceL,List.take_zero,List.take_succ_cons,List.drop_zero,List.drop_succ_cons,List.drop_nil,List.take_nil,Nat.le_refl,Nat.reduceMul,List.set_cons_zero,List.set_cons_succ,LV.scalar,List.all_cons,List.all_nil,Nat.lt_add_one,Nat.zero_lt_one,Nat.reduceLT,Nat.lt_irrefl,fillL,List.length_append,foldIntL,kind_beq,pures_int,solids_int,plains_int,unders_int,scalars_int,hx,h1,hr,h2,show ¬ x ≥ (hs.length : Int) by omega,hrem,h,show IntKind.i64.wrap (1 + 1) = ((2 : Nat) : Int) by rfl,show ((1 : Nat) : Int) = 1 from rfl,show (1 : Int) < 4 by omega]
      · simp only [ebb_Shore_beside_1.B0,beqT,beqF,exF_seq,exF_region,exF_block,exF_cond,exF_ret,exF_exit,exF_skip,runL,wantL,stepL,evL,evC,LEnv.at,putL,loadFine,loadL,cellsAt,Trk.putNew,Trk.up,Trk.touch,Trk.gives,Trk.calm,Trk.hit,opdsOf,Trk.fresh,LEnv.keep,LEnv.ofFrom,List.map_cons,List.map_nil,nbeq,nble,nblt,ofAV,ofAVs,lenL,bin_add,bin_sub,bin_mul,bin_eql,bin_neq,bin_lss,bin_leq,bin_gtr,bin_geq,natL_nat,natL_zero,natL_one,natL_two,Nat.zero_mul,List.any_cons,List.any_nil,Bool.or_false,Bool.false_or,Bool.true_or,Bool.or_true,Bool.and_true,Bool.true_and,Bool.and_false,Bool.false_and,Bool.not_true,Bool.not_false,Nat.reduceBEq,Nat.reduceEqDiff,decide_true,decide_false,cond_true,cond_false,List.filter_nil,List.filter_cons,Nat.reduceAdd,Nat.reduceLeDiff,reduceCtorEq,List.length_nil,List.length_cons,Nat.mul_one,if_true,if_false,Bool.false_eq_true,eq_self,and_true,true_and,retL,resultsL,resAllL,resOfL,List.append_nil,List.nil_append,List.cons_append,true_or,or_true,false_or,or_false,false_and,and_false,not_true_eq_false,not_false_eq_true,ne_eq,unL,trim_nil,views_pures,LV.pures,LV.pure,freeze,Nat.reduceDiv,Int.reduceEq,Int.reduceLT,Int.reduceLE,Int.natCast_zero,LV.cells,allocL,List.getElem?_cons_zero,List.getElem?_cons_succ,storeL,spliceL,List.take_zero,List.take_succ_cons,List.drop_zero,List.drop_succ_cons,List.drop_nil,List.take_nil,Nat.le_refl,Nat.reduceMul,List.set_cons_zero,List.set_cons_succ,LV.scalar,List.all_cons,List.all_nil,Nat.lt_add_one,Nat.zero_lt_one,Nat.reduceLT,Nat.lt_irrefl,fillL,List.length_append,foldIntL,kind_beq,pures_int,solids_int,plains_int,unders_int,scalars_int,hx,h1,hr,h2,show ¬ x ≥ (hs.length : Int) by omega,hrem2,h,show IntKind.i64.wrap (2 + 1) = ((3 : Nat) : Int) by rfl,show ((2 : Nat) : Int) = 2 from rfl,show (2 : Int) < 4 by omega]
theorem bes_ask (q : Nat) (first cap : List LV) {r c : Nat} {hs : List Int} (S : Sho r c hs) (nl ex : Bool) (sz p k : Nat) (x : Int) (hk : k < 4) (hx : ((nbI p c).map (LV.int .i64))[k]? = some (.int .i64 x)) (hs' : skipB p c hs.length k x = false) (m m' : LMem)
    (hq : clF LP q (first ++ ([.int .i64 x] ++ cap)) m = some (.W,.bool true,m')) :
    exF LP ebb_Shore_beside_1.L0 (BE (.func q first cap) p r c nl ex sz hs k) m = exF LP ebb_Shore_beside_1.L0 (BE (.func q first cap) p r c nl ex sz hs (k + 1)) m' := by
  have hr := fun m => river_c r c hs nl ex sz m
  have hc0 : (c : Int) ≠ 0 := by have := S.cb.1; omega
  have hrem := bin_rem .i64 (p : Int) (c : Int) hc0
  have hrem2 := bin_rem .i64 x (c : Int) hc0
  rw [tmod_nat] at hrem
  have hkl : (k : Int) < 4 := by omega
  have hw := wrap_succ (show k + 1 < 9223372036854775808 by omega)
  rw [ebb_Shore_beside_1.L0_eq]
  simp only [BE] at hx ⊢
  generalize (nbI p c).map (LV.int .i64) = A at *
  unfold skipB at hs'
  simp only [Bool.or_eq_false_iff,decide_eq_false_iff_not,Bool.and_eq_false_iff] at hs'
  obtain ⟨⟨⟨h1,h2⟩,h3⟩,h4⟩ := hs'
  simp only [List.cons_append,List.nil_append] at hq
  have h2' : ¬ x ≥ (hs.length : Int) := h2
  by_cases k1 : k = 1
  · subst k1
    have h3 : ¬ p % c = 0 := by simpa using h3
    have h3' : ¬ ((p % c : Nat) : Int) = 0 := by omega
    simp only [ebb_Shore_beside_1.B0,beqT,beqF,exF_seq,exF_region,exF_block,exF_cond,exF_ret,exF_exit,exF_skip,runL,wantL,stepL,evL,evC,LEnv.at,putL,loadFine,loadL,cellsAt,Trk.putNew,Trk.up,Trk.touch,Trk.gives,Trk.calm,Trk.hit,opdsOf,Trk.fresh,LEnv.keep,LEnv.ofFrom,List.map_cons,List.map_nil,nbeq,nble,nblt,ofAV,ofAVs,lenL,bin_add,bin_sub,bin_mul,bin_eql,bin_neq,bin_lss,bin_leq,bin_gtr,bin_geq,natL_nat,natL_zero,natL_one,natL_two,Nat.zero_mul,List.any_cons,List.any_nil,Bool.or_false,Bool.false_or,Bool.true_or,Bool.or_true,Bool.and_true,Bool.true_and,Bool.and_false,Bool.false_and,Bool.not_true,Bool.not_false,Nat.reduceBEq,Nat.reduceEqDiff,decide_true,decide_false,cond_true,cond_false,List.filter_nil,List.filter_cons,Nat.reduceAdd,Nat.reduceLeDiff,reduceCtorEq,List.length_nil,List.length_cons,Nat.mul_one,if_true,if_false,Bool.false_eq_true,eq_self,and_true,true_and,retL,resultsL,resAllL,resOfL,List.append_nil,List.nil_append,List.cons_append,true_or,or_true,false_or,or_false,false_and,and_false,not_true_eq_false,not_false_eq_true,ne_eq,unL,trim_nil,views_pures,LV.pures,LV.pure,freeze,Nat.reduceDiv,Int.reduceEq,Int.reduceLT,Int.reduceLE,Int.natCast_zero,LV.cells,allocL,List.getElem?_cons_zero,List.getElem?_cons_succ,storeL,spliceL,List.take_zero,List.take_succ_cons,List.drop_zero,List.drop_succ_cons,List.drop_nil,List.take_nil,Nat.le_refl,Nat.reduceMul,List.set_cons_zero,List.set_cons_succ,LV.scalar,List.all_cons,List.all_nil,Nat.lt_add_one,Nat.zero_lt_one,Nat.reduceLT,Nat.lt_irrefl,fillL,List.length_append,foldIntL,kind_beq,pures_int,solids_int,plains_int,unders_int,scalars_int,hx,h1,hr,h2,h2',hrem,h3,h3',show IntKind.i64.wrap (1 + 1) = ((2 : Nat) : Int) by rfl,show ((1 : Nat) : Int) = 1 from rfl,show (1 : Int) < 4 by omega,hq,show ¬ (1 : Int) = 2 by omega]
  · by_cases k2 : k = 2
    · subst k2
      have h4 : ¬ x.tmod c = 0 := by simpa using h4
      simp only [ebb_Shore_beside_1.B0,beqT,beqF,exF_seq,exF_region,exF_block,exF_cond,exF_ret,exF_exit,exF_skip,runL,wantL,stepL,evL,evC,LEnv.at,putL,loadFine,loadL,cellsAt,Trk.putNew,Trk.up,Trk.touch,Trk.gives,Trk.calm,Trk.hit,opdsOf,Trk.fresh,LEnv.keep,LEnv.ofFrom,List.map_cons,List.map_nil,nbeq,nble,nblt,ofAV,ofAVs,lenL,bin_add,bin_sub,bin_mul,bin_eql,bin_neq,bin_lss,bin_leq,bin_gtr,bin_geq,natL_nat,natL_zero,natL_one,natL_two,Nat.zero_mul,List.any_cons,List.any_nil,Bool.or_false,Bool.false_or,Bool.true_or,Bool.or_true,Bool.and_true,Bool.true_and,Bool.and_false,Bool.false_and,Bool.not_true,Bool.not_false,Nat.reduceBEq,Nat.reduceEqDiff,decide_true,decide_false,cond_true,cond_false,List.filter_nil,List.filter_cons,Nat.reduceAdd,Nat.reduceLeDiff,reduceCtorEq,List.length_nil,List.length_cons,Nat.mul_one,if_true,if_false,Bool.false_eq_true,eq_self,and_true,true_and,retL,resultsL,resAllL,resOfL,List.append_nil,List.nil_append,List.cons_append,true_or,or_true,false_or,or_false,false_and,and_false,not_true_eq_false,not_false_eq_true,ne_eq,unL,trim_nil,views_pures,LV.pures,LV.pure,freeze,Nat.reduceDiv,Int.reduceEq,Int.reduceLT,Int.reduceLE,Int.natCast_zero,LV.cells,allocL,List.getElem?_cons_zero,List.getElem?_cons_succ,storeL,spliceL,List.take_zero,List.take_succ_cons,List.drop_zero,List.drop_succ_cons,List.drop_nil,List.take_nil,Nat.le_refl,Nat.reduceMul,List.set_cons_zero,List.set_cons_succ,LV.scalar,List.all_cons,List.all_nil,Nat.lt_add_one,Nat.zero_lt_one,Nat.reduceLT,Nat.lt_irrefl,fillL,List.length_append,foldIntL,kind_beq,pures_int,solids_int,plains_int,unders_int,scalars_int,hx,h1,hr,h2,h2',hrem2,h4,show IntKind.i64.wrap (2 + 1) = ((3 : Nat) : Int) by rfl,show ((2 : Nat) : Int) = 2 from rfl,show (2 : Int) < 4 by omega,hq,show ¬ (2 : Int) = 1 by omega]
    · simp only [ebb_Shore_beside_1.B0,beqT,beqF,exF_seq,exF_region,exF_block,exF_cond,exF_ret,exF_exit,exF_skip,runL,wantL,stepL,evL,evC,LEnv.at,putL,loadFine,loadL,cellsAt,Trk.putNew,Trk.up,Trk.touch,Trk.gives,Trk.calm,Trk.hit,opdsOf,Trk.fresh,LEnv.keep,LEnv.ofFrom,List.map_cons,List.map_nil,nbeq,nble,nblt,ofAV,ofAVs,lenL,bin_add,bin_sub,bin_mul,bin_eql,bin_neq,bin_lss,bin_leq,bin_gtr,bin_geq,natL_nat,natL_zero,natL_one,natL_two,Nat.zero_mul,List.any_cons,List.any_nil,Bool.or_false,Bool.false_or,Bool.true_or,Bool.or_true,Bool.and_true,Bool.true_and,Bool.and_false,Bool.false_and,Bool.not_true,Bool.not_false,Nat.reduceBEq,Nat.reduceEqDiff,decide_true,decide_false,cond_true,cond_false,List.filter_nil,List.filter_cons,Nat.reduceAdd,Nat.reduceLeDiff,reduceCtorEq,List.length_nil,List.length_cons,Nat.mul_one,if_true,if_false,Bool.false_eq_true,eq_self,and_true,true_and,retL,resultsL,resAllL,resOfL,List.append_nil,List.nil_append,List.cons_append,true_or,or_true,false_or,or_false,false_and,and_false,not_true_eq_false,not_false_eq_true,ne_eq,unL,trim_nil,views_pures,LV.pures,LV.pure,freeze,Nat.reduceDiv,Int.reduceEq,Int.reduceLT,Int.reduceLE,Int.natCast_zero,LV.cells,allocL,List.getElem?_cons_zero,List.getElem?_cons_succ,storeL,spliceL,List.take_zero,List.take_succ_cons,List.drop_zero,List.drop_succ_cons,List.drop_nil,List.take_nil,Nat.le_refl,Nat.reduceMul,List.set_cons_zero,List.set_cons_succ,LV.scalar,List.all_cons,List.all_nil,Nat.lt_add_one,Nat.zero_lt_one,Nat.reduceLT,Nat.lt_irrefl,fillL,List.length_append,foldIntL,kind_beq,pures_int,solids_int,plains_int,unders_int,scalars_int,hkl,hk,hx,h1,hr,h2,h2',hw,hq,show ¬ (k : Int) = 1 by omega,show ¬ (k : Int) = 2 by omega]
structure Asks {α : Type} (q : Nat) (first cap : List LV) (N : Nat) (mem : α → LMem) (step : α → Nat → α) : Prop where
  call : ∀ a x,x ≤ N → clF LP q (first ++ ([.int .i64 (x : Int)] ++ cap)) (mem a) = some (.W,.bool true,mem (step a x))
  len : ∀ a b,(mem a).length = (mem b).length
def nbs (p c N : Nat) : List Nat :=
  (if c ≤ p then [p - c] else []) ++ ((if 1 ≤ p ∧ p % c ≠ 0 then [p - 1] else []) ++ ((if p + 1 < N ∧ (p + 1) % c ≠ 0 then [p + 1] else []) ++ ((if p + c < N then [p + c] else []) ++ (if N ≤ p + c then [N] else []))))
theorem bes_loop {α : Type} {q : Nat} {first cap : List LV} {mem : α → LMem} {step : α → Nat → α} {r c : Nat} {hs : List Int} (S : Sho r c hs) (A : Asks q first cap hs.length mem step) (nl ex : Bool) (sz p : Nat) (hp : p < hs.length) (a : α) :
    ∃ e,exF LP ebb_Shore_beside_1.L0 (BE (.func q first cap) p r c nl ex sz hs 0) (mem a) = some (.exit 0,[(0,.func q first cap),(1,.elt [.int .i64 (p : Int)] 0),(2,.elt (SH r c nl ex sz hs) 0)],mem e) ∧ (if hs.length ≤ p + c then step e hs.length else e) = (nbs p c hs.length).foldl step a := by
  have hle := S.le
  have hc1 := S.cb.1
  have hcl := S.cle
  have one : ∀ (k : Nat) (x : Int) (a : α),k < 4 → ((nbI p c).map (LV.int .i64))[k]? = some (.int .i64 x) → exF LP ebb_Shore_beside_1.L0 (BE (.func q first cap) p r c nl ex sz hs k) (mem a) = exF LP ebb_Shore_beside_1.L0 (BE (.func q first cap) p r c nl ex sz hs (k + 1)) (mem (if skipB p c hs.length k x then a else step a x.toNat)) := by
    intro k x a hk hx
    cases hb : skipB p c hs.length k x
    · have h1 : ¬ x < 0 ∧ ¬ (hs.length : Int) ≤ x := by
        unfold skipB at hb
        simp only [Bool.or_eq_false_iff,decide_eq_false_iff_not] at hb
        exact hb.1.1
      have hcall := A.call a x.toNat (by omega)
      rw [show ((x.toNat : Nat) : Int) = x by omega] at hcall
      exact bes_ask q first cap S nl ex sz p k x hk hx hb _ _ hcall
    · exact bes_skip _ S nl ex sz p k x hk hx hb _
  have e0 : ∀ a,(if skipB p c hs.length 0 ((p : Int) - (c : Int)) then a else step a ((p : Int) - (c : Int)).toNat) = (if c ≤ p then [p - c] else []).foldl step a := by
    intro a
    by_cases h : c ≤ p
    · rw [if_neg (by simp [skipB]; omega),if_pos h,show ((p : Int) - (c : Int)).toNat = p - c by omega]; rfl
    · rw [if_pos (by simp [skipB]; omega),if_neg h]; rfl
  have e1 : ∀ a,(if skipB p c hs.length 1 ((p : Int) - 1) then a else step a ((p : Int) - 1).toNat) = (if 1 ≤ p ∧ p % c ≠ 0 then [p - 1] else []).foldl step a := by
    intro a
    by_cases h : 1 ≤ p ∧ p % c ≠ 0
    · rw [if_neg (by simp [skipB,h.2]; omega),if_pos h,show ((p : Int) - 1).toNat = p - 1 by omega]; rfl
    · rw [if_neg h]
      by_cases h0 : 1 ≤ p
      · have : p % c = 0 := by
          by_cases q : p % c = 0
          · exact q
          · exact absurd ⟨h0,q⟩ h
        rw [if_pos (by simp [skipB,this])]; rfl
      · rw [if_pos (by simp [skipB]; omega)]; rfl
  have ht : ((p : Int) + 1).tmod (c : Int) = (((p + 1) % c : Nat) : Int) := by
    rw [← tmod_nat]; rfl
  have e2 : ∀ a,(if skipB p c hs.length 2 ((p : Int) + 1) then a else step a ((p : Int) + 1).toNat) = (if p + 1 < hs.length ∧ (p + 1) % c ≠ 0 then [p + 1] else []).foldl step a := by
    intro a
    by_cases h : p + 1 < hs.length ∧ (p + 1) % c ≠ 0
    · have h2 : ¬ (((p + 1) % c : Nat) : Int) = 0 := by omega
      rw [if_neg (by unfold skipB; rw [ht]; simp only [h2,decide_false,Bool.and_false,Bool.or_false]; simp; omega),if_pos h,show ((p : Int) + 1).toNat = p + 1 by omega]; rfl
    · rw [if_neg h]
      by_cases h0 : p + 1 < hs.length
      · have : (((p + 1) % c : Nat) : Int) = 0 := by
          by_cases q : (p + 1) % c = 0
          · omega
          · exact absurd ⟨h0,q⟩ h
        rw [if_pos (by unfold skipB; rw [ht,this]; simp)]; rfl
      · rw [if_pos (by simp [skipB]; omega)]; rfl
  have e3 : ∀ a,(if skipB p c hs.length 3 ((p : Int) + (c : Int)) then a else step a ((p : Int) + (c : Int)).toNat) = (if p + c < hs.length then [p + c] else []).foldl step a := by
    intro a
    by_cases h : p + c < hs.length
    · rw [if_neg (by simp [skipB]; omega),if_pos h,show ((p : Int) + (c : Int)).toNat = p + c by omega]; rfl
    · rw [if_pos (by simp [skipB]; omega),if_neg h]; rfl
  have s0 := fun a => one 0 _ a (by omega) rfl
  have s1 := fun a => one 1 _ a (by omega) rfl
  have s2 := fun a => one 2 _ a (by omega) rfl
  have s3 := fun a => one 3 _ a (by omega) rfl
  simp only [e0,e1,e2,e3] at s0 s1 s2 s3
  have fin : ∀ b,exF LP ebb_Shore_beside_1.L0 (BE (.func q first cap) p r c nl ex sz hs (3 + 1)) (mem b) = some (.exit 0,[(0,.func q first cap),(1,.elt [.int .i64 (p : Int)] 0),(2,.elt (SH r c nl ex sz hs) 0)],mem b) := by
    intro b
    rw [ebb_Shore_beside_1.L0_eq]
    simp only [BE]
    simp only [ebb_Shore_beside_1.B0,beqT,beqF,exF_seq,exF_region,exF_block,exF_cond,exF_ret,exF_exit,exF_skip,runL,wantL,stepL,evL,evC,LEnv.at,putL,loadFine,loadL,cellsAt,Trk.putNew,Trk.up,Trk.touch,Trk.gives,Trk.calm,Trk.hit,opdsOf,Trk.fresh,LEnv.keep,LEnv.ofFrom,List.map_cons,List.map_nil,nbeq,nble,nblt,ofAV,ofAVs,lenL,bin_add,bin_sub,bin_mul,bin_eql,bin_neq,bin_lss,bin_leq,bin_gtr,bin_geq,natL_nat,natL_zero,natL_one,natL_two,Nat.zero_mul,List.any_cons,List.any_nil,Bool.or_false,Bool.false_or,Bool.true_or,Bool.or_true,Bool.and_true,Bool.true_and,Bool.and_false,Bool.false_and,Bool.not_true,Bool.not_false,Nat.reduceBEq,Nat.reduceEqDiff,decide_true,decide_false,cond_true,cond_false,List.filter_nil,List.filter_cons,Nat.reduceAdd,Nat.reduceLeDiff,reduceCtorEq,List.length_nil,List.length_cons,Nat.mul_one,if_true,if_false,Bool.false_eq_true,eq_self,and_true,true_and,retL,resultsL,resAllL,resOfL,List.append_nil,List.nil_append,List.cons_append,true_or,or_true,false_or,or_false,false_and,and_false,not_true_eq_false,not_false_eq_true,ne_eq,unL,trim_nil,views_pures,LV.pures,LV.pure,freeze,Nat.reduceDiv,Int.reduceEq,Int.reduceLT,Int.reduceLE,Int.natCast_zero,LV.cells,allocL,List.getElem?_cons_zero,List.getElem?_cons_succ,storeL,spliceL,List.take_zero,List.take_succ_cons,List.drop_zero,List.drop_succ_cons,List.drop_nil,List.take_nil,Nat.le_refl,Nat.reduceMul,List.set_cons_zero,List.set_cons_succ,LV.scalar,List.all_cons,List.all_nil,Nat.lt_add_one,Nat.zero_lt_one,Nat.reduceLT,Nat.lt_irrefl,fillL,List.length_append,foldIntL,kind_beq,pures_int,solids_int,plains_int,unders_int,scalars_int,show (((4 : Nat)) : Int) = 4 from rfl,Int.lt_irrefl]
  refine ⟨_,(s0 a).trans ((s1 _).trans ((s2 _).trans ((s3 _).trans (fin _)))),?_⟩
  unfold nbs
  simp only [List.foldl_append]
  by_cases h : hs.length ≤ p + c
  · rw [if_pos h,if_pos h]; rfl
  · rw [if_neg h,if_neg h]; rfl
theorem beside1_c {α : Type} {q : Nat} {first cap : List LV} {mem : α → LMem} {step : α → Nat → α} {r c : Nat} {hs : List Int} (S : Sho r c hs) (A : Asks q first cap hs.length mem step) (nl ex : Bool) (sz p : Nat) (hp : p < hs.length) (a : α) :
    clF LP n_ebb_Shore_beside_1 [.func q first cap,.elt [.int .i64 (p : Int)] 0,.elt (SH r c nl ex sz hs) 0] (mem a) = some (.W,.tup [],mem ((nbs p c hs.length).foldl step a)) := by
  obtain ⟨e,h1,h2⟩ := bes_loop S A nl ex sz p hp a
  have hle := S.le
  have hc := S.cb
  have hr := fun m => river_c r c hs nl ex sz m
  have w1 : IntKind.i64.wrap ((p : Int) - (c : Int)) = (p : Int) - (c : Int) := wrap_in (by omega)
  have w2 : IntKind.i64.wrap ((p : Int) - 1) = (p : Int) - 1 := wrap_in (by omega)
  have w3 : IntKind.i64.wrap ((p : Int) + 1) = (p : Int) + 1 := wrap_in (by omega)
  have w4 : IntKind.i64.wrap ((p : Int) + (c : Int)) = (p : Int) + (c : Int) := wrap_in (by omega)
  have w5 : IntKind.i64.wrap ((hs.length : Int) - (c : Int)) = (hs.length : Int) - (c : Int) := wrap_in (by omega)
  rw [← h2]
  simp only [BE,nbI,List.map_cons,List.map_nil,Int.natCast_zero] at h1
  have key : ∀ e',retL ebb_Shore_beside_1.results (exF LP ebb_Shore_beside_1.body (LEnv.ofFrom 0 [.func q first cap,.elt [.int .i64 (p : Int)] 0,.elt (SH r c nl ex sz hs) 0]) (mem a)) = some (.tup [],mem e') →
      clF LP n_ebb_Shore_beside_1 [.func q first cap,.elt [.int .i64 (p : Int)] 0,.elt (SH r c nl ex sz hs) 0] (mem a) = some (.W,.tup [],mem e') := by
    intro e' h
    have := call_W lp_ebb_Shore_beside_1 rfl h
    rwa [trim_le _ _ _ (by rw [A.len e' a]; exact Nat.le_refl _)] at this
  apply key
  by_cases h : hs.length ≤ p + c
  · have hq := A.call e hs.length (Nat.le_refl _)
    simp only [List.cons_append,List.nil_append] at hq
    rw [if_pos h]
    simp only [ebb_Shore_beside_1,ebb_Shore_beside_1.B,beqT,beqF,exF_seq,exF_region,exF_block,exF_cond,exF_ret,exF_exit,exF_skip,runL,wantL,stepL,evL,evC,LEnv.at,putL,loadFine,loadL,cellsAt,Trk.putNew,Trk.up,Trk.touch,Trk.gives,Trk.calm,Trk.hit,opdsOf,Trk.fresh,LEnv.keep,LEnv.ofFrom,List.map_cons,List.map_nil,nbeq,nble,nblt,ofAV,ofAVs,lenL,bin_add,bin_sub,bin_mul,bin_eql,bin_neq,bin_lss,bin_leq,bin_gtr,bin_geq,natL_nat,natL_zero,natL_one,natL_two,Nat.zero_mul,List.any_cons,List.any_nil,Bool.or_false,Bool.false_or,Bool.true_or,Bool.or_true,Bool.and_true,Bool.true_and,Bool.and_false,Bool.false_and,Bool.not_true,Bool.not_false,Nat.reduceBEq,Nat.reduceEqDiff,decide_true,decide_false,cond_true,cond_false,List.filter_nil,List.filter_cons,Nat.reduceAdd,Nat.reduceLeDiff,reduceCtorEq,List.length_nil,List.length_cons,Nat.mul_one,if_true,if_false,Bool.false_eq_true,eq_self,and_true,true_and,retL,resultsL,resAllL,resOfL,List.append_nil,List.nil_append,List.cons_append,true_or,or_true,false_or,or_false,false_and,and_false,not_true_eq_false,not_false_eq_true,ne_eq,unL,trim_nil,views_pures,LV.pures,LV.pure,freeze,Nat.reduceDiv,Int.reduceEq,Int.reduceLT,Int.reduceLE,Int.natCast_zero,LV.cells,allocL,List.getElem?_cons_zero,List.getElem?_cons_succ,storeL,spliceL,List.take_zero,List.take_succ_cons,List.drop_zero,List.drop_succ_cons,List.drop_nil,List.take_nil,Nat.le_refl,Nat.reduceMul,List.set_cons_zero,List.set_cons_succ,LV.scalar,List.all_cons,List.all_nil,Nat.lt_add_one,Nat.zero_lt_one,Nat.reduceLT,Nat.lt_irrefl,fillL,List.length_append,foldIntL,kind_beq,pures_int,solids_int,plains_int,unders_int,scalars_int,w1,w2,w3,w4,w5,h1,hr,hq,show (p : Int) ≥ (hs.length : Int) - (c : Int) by omega,show (hs.length : Int) - (c : Int) ≤ (p : Int) by omega]
  · rw [if_neg h]
    simp only [ebb_Shore_beside_1,ebb_Shore_beside_1.B,beqT,beqF,exF_seq,exF_region,exF_block,exF_cond,exF_ret,exF_exit,exF_skip,runL,wantL,stepL,evL,evC,LEnv.at,putL,loadFine,loadL,cellsAt,Trk.putNew,Trk.up,Trk.touch,Trk.gives,Trk.calm,Trk.hit,opdsOf,Trk.fresh,LEnv.keep,LEnv.ofFrom,List.map_cons,List.map_nil,nbeq,nble,nblt,ofAV,ofAVs,lenL,bin_add,bin_sub,bin_mul,bin_eql,bin_neq,bin_lss,bin_leq,bin_gtr,bin_geq,natL_nat,natL_zero,natL_one,natL_two,Nat.zero_mul,List.any_cons,List.any_nil,Bool.or_false,Bool.false_or,Bool.true_or,Bool.or_true,Bool.and_true,Bool.true_and,Bool.and_false,Bool.false_and,Bool.not_true,Bool.not_false,Nat.reduceBEq,Nat.reduceEqDiff,decide_true,decide_false,cond_true,cond_false,List.filter_nil,List.filter_cons,Nat.reduceAdd,Nat.reduceLeDiff,reduceCtorEq,List.length_nil,List.length_cons,Nat.mul_one,if_true,if_false,Bool.false_eq_true,eq_self,and_true,true_and,retL,resultsL,resAllL,resOfL,List.append_nil,List.nil_append,List.cons_append,true_or,or_true,false_or,or_false,false_and,and_false,not_true_eq_false,not_false_eq_true,ne_eq,unL,trim_nil,views_pures,LV.pures,LV.pure,freeze,Nat.reduceDiv,Int.reduceEq,Int.reduceLT,Int.reduceLE,Int.natCast_zero,LV.cells,allocL,List.getElem?_cons_zero,List.getElem?_cons_succ,storeL,spliceL,List.take_zero,List.take_succ_cons,List.drop_zero,List.drop_succ_cons,List.drop_nil,List.take_nil,Nat.le_refl,Nat.reduceMul,List.set_cons_zero,List.set_cons_succ,LV.scalar,List.all_cons,List.all_nil,Nat.lt_add_one,Nat.zero_lt_one,Nat.reduceLT,Nat.lt_irrefl,fillL,List.length_append,foldIntL,kind_beq,pures_int,solids_int,plains_int,unders_int,scalars_int,w1,w2,w3,w4,w5,h1,hr,show ¬ (p : Int) ≥ (hs.length : Int) - (c : Int) by omega,show ¬ (hs.length : Int) - (c : Int) ≤ (p : Int) by omega]
theorem beside_c (r c : Nat) (hs : List Int) (nl ex : Bool) (sz p : Nat) (m : LMem) :
    clF LP n_ebb_Shore_beside [.agg (SH r c nl ex sz hs),.int .i64 (p : Int)] m = some (.P,.func n_ebb_Shore_beside_1 [] [.elt [.int .i64 (p : Int)] 0,.elt (SH r c nl ex sz hs) 0],m) := by
  refine call_Pv lp_ebb_Shore_beside rfl (by simp [LV.pures,LV.pure,pures_int]) (m1 := [⟨SH r c nl ex sz hs,true⟩,⟨[.int .i64 (p : Int)],true⟩]) (ids := [1,0]) (v := .func n_ebb_Shore_beside_1 [] [.ptr 1 0 1,.ptr 0 0 3]) ?_ ?_ m
  · simp only [ebb_Shore_beside,ebb_Shore_beside.B,beqT,beqF,exF_seq,exF_region,exF_block,exF_cond,exF_ret,exF_exit,exF_skip,runL,wantL,stepL,evL,evC,LEnv.at,putL,loadFine,loadL,cellsAt,Trk.putNew,Trk.up,Trk.touch,Trk.gives,Trk.calm,Trk.hit,opdsOf,Trk.fresh,LEnv.keep,LEnv.ofFrom,List.map_cons,List.map_nil,nbeq,nble,nblt,ofAV,ofAVs,lenL,bin_add,bin_sub,bin_mul,bin_eql,bin_neq,bin_lss,bin_leq,bin_gtr,bin_geq,natL_nat,natL_zero,natL_one,natL_two,Nat.zero_mul,List.any_cons,List.any_nil,Bool.or_false,Bool.false_or,Bool.true_or,Bool.or_true,Bool.and_true,Bool.true_and,Bool.and_false,Bool.false_and,Bool.not_true,Bool.not_false,Nat.reduceBEq,Nat.reduceEqDiff,decide_true,decide_false,cond_true,cond_false,List.filter_nil,List.filter_cons,Nat.reduceAdd,Nat.reduceLeDiff,reduceCtorEq,List.length_nil,List.length_cons,Nat.mul_one,if_true,if_false,Bool.false_eq_true,eq_self,and_true,true_and,retL,resultsL,resAllL,resOfL,List.append_nil,List.nil_append,List.cons_append,true_or,or_true,false_or,or_false,false_and,and_false,not_true_eq_false,not_false_eq_true,ne_eq,unL,trim_nil,views_pures,LV.pures,LV.pure,freeze,Nat.reduceDiv,Int.reduceEq,Int.reduceLT,Int.reduceLE,Int.natCast_zero,LV.cells,allocL,List.getElem?_cons_zero,List.getElem?_cons_succ,storeL,spliceL,List.take_zero,List.take_succ_cons,List.drop_zero,List.drop_succ_cons,List.drop_nil,List.take_nil,Nat.le_refl,Nat.reduceMul,List.set_cons_zero,List.set_cons_succ,LV.scalar,List.all_cons,List.all_nil,Nat.lt_add_one,Nat.zero_lt_one,Nat.reduceLT,Nat.lt_irrefl,fillL,List.length_append,foldIntL,kind_beq,pures_int,solids_int,plains_int,unders_int,scalars_int]
  · simp [view,viewL,viewC,LV.pures,LV.pure,pures_int]
end Go.Am.Top
