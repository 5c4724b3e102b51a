/-
  What functions of the statements across layers compute, 1: a shore by numbers; lists that rise; the examples.
-/
import Derived.Test.YtoppeojgadbjeaaTopC11
set_option linter.unusedVariables false
set_option linter.unusedSimpArgs false
set_option maxRecDepth 10000
namespace Go.Am.Top
open Go.Am.G
theorem nat_list : ∀ ns : List Int,(∀ n ∈ ns,0 ≤ n ∧ n < 256) → ∃ w : List Nat,ns = ci w ∧ ∀ x ∈ w,x < 256
  | [],_ => ⟨[],rfl,by simp⟩
  | n :: ns,h => by
    obtain ⟨w,hw,hb⟩ := nat_list ns fun x hx => h x (by simp [hx])
    have h0 := h n (by simp)
    refine ⟨n.toNat :: w,by rw [hw]; simp [ci]; omega,fun x hx => ?_⟩
    rcases List.mem_cons.1 hx with rfl | hx
    · omega
    · exact hb x hx
theorem gv_scalar (b : Nat) (l : List Int) : (GV b l).scalar = true := by
  unfold GV; split <;> rfl
theorem gv_cells (b : Nat) (l : List Int) : (GV b l).cells = some [GV b l] := by
  unfold GV; split <;> rfl
abbrev hsW (w : List Nat) (k : Nat) : List Int := (w.take k).map fun x => ((x % 31 : Nat) : Int)
def MD (w : List Nat) (r c : Nat) (l : List Int) : LMem := ⟨u8s w,true⟩ :: ⟨[.int .i64 0,.int .i64 0,.lst true true 0 0 []],true⟩ :: ⟨[.int .i64 (r : Int),.int .i64 (c : Int),GV 3 l],true⟩ :: GM l
theorem shored_loop (w : List Nat) (hw : w.length = 7) (hb : ∀ x ∈ w,x < 256) (r c N : Nat) (hN : N ≤ 7) (g : Nat) (t : Nat) : ∀ k,k + t = N →
    exF LP top_shored.L0 [(6,.ptr 1 0 3),(7,.ptr 2 0 3),(29,.sl 0 0 N g 0 1 7),(30,.int .i64 (N : Int)),(31,.int .i64 (k : Int))] (MD w r c (hsW w k)) =
      some (.exit 0,[(6,.ptr 1 0 3),(7,.ptr 2 0 3)],MD w r c (hsW w N)) := by
  induction t with
  | zero =>
    intro k hk
    obtain rfl : k = N := by omega
    rw [top_shored.L0_eq]
    simp only [top_shored.B0,beqT,beqF,exF_seq,exF_region,exF_block,exF_cond,exF_ret,exF_exit,exF_skip,runL,wantL,stepL,evL,evC,LEnv.at,putL,loadFine,loadL,cellsAt,Trk.putNew,Trk.up,Trk.touch,Trk.gives,Trk.calm,Trk.hit,opdsOf,Trk.fresh,LEnv.keep,LEnv.ofFrom,List.map_cons,List.map_nil,nbeq,nble,nblt,ofAV,ofAVs,lenL,bin_add,bin_sub,bin_mul,bin_eql,bin_neq,bin_lss,bin_leq,bin_gtr,bin_geq,natL_nat,natL_zero,natL_one,natL_two,Nat.zero_mul,List.any_cons,List.any_nil,Bool.or_false,Bool.false_or,Bool.true_or,Bool.or_true,Bool.and_true,Bool.true_and,Bool.and_false,Bool.false_and,Bool.not_true,Bool.not_false,Nat.reduceBEq,Nat.reduceEqDiff,decide_true,decide_false,cond_true,cond_false,List.filter_nil,List.filter_cons,Nat.reduceAdd,Nat.reduceLeDiff,reduceCtorEq,List.length_nil,List.length_cons,Nat.mul_one,if_true,if_false,Bool.false_eq_true,eq_self,and_true,true_and,retL,resultsL,resAllL,resOfL,List.append_nil,List.nil_append,List.cons_append,true_or,or_true,false_or,or_false,false_and,and_false,not_true_eq_false,not_false_eq_true,ne_eq,unL,trim_nil,views_pures,LV.pures,LV.pure,freeze,Nat.reduceDiv,Int.reduceEq,Int.reduceLT,Int.reduceLE,Int.natCast_zero,LV.cells,allocL,List.getElem?_cons_zero,List.getElem?_cons_succ,storeL,spliceL,List.take_zero,List.take_succ_cons,List.drop_zero,List.drop_succ_cons,List.drop_nil,List.take_nil,Nat.le_refl,Nat.reduceMul,List.set_cons_zero,List.set_cons_succ,LV.scalar,List.all_cons,List.all_nil,Nat.lt_add_one,Nat.zero_lt_one,Nat.reduceLT,Nat.lt_irrefl,fillL,List.length_append,foldIntL,kind_beq,pures_int,solids_int,plains_int,unders_int,scalars_int,Int.lt_irrefl]
  | succ t ih =>
    intro k hk
    have h2 : k < w.length := by omega
    have ih := ih (k + 1) (by omega)
    have hx := hb _ (List.getElem_mem h2)
    have hat := u8_at w k h2
    have e : hsW w (k + 1) = hsW w k ++ [((w[k] % 31 : Nat) : Int)] := by
      unfold hsW
      rw [List.take_succ_eq_append_getElem h2,List.map_append]; rfl
    have happ := append_grow [⟨u8s w,true⟩,⟨[.int .i64 0,.int .i64 0,.lst true true 0 0 []],true⟩,⟨[.int .i64 (r : Int),.int .i64 (c : Int),GV 3 (hsW w k)],true⟩] (hsW w k) ((w[k] % 31 : Nat) : Int) true (by simp; omega)
    have hrem := bin_rem .i64 ((w[k] : Nat) : Int) 31 (by omega)
    rw [show ((w[k] : Nat) : Int).tmod 31 = ((w[k] % 31 : Nat) : Int) from tmod_nat _ 31] at hrem
    have hcv := wrap_nat (n := w[k]) (by omega)
    have wk := wrap_succ (show k + 1 < 9223372036854775808 by omega)
    rw [e] at ih
    simp only [MD,List.cons_append,List.nil_append,List.length_cons,List.length_nil,Nat.zero_add,Nat.reduceAdd] at ih happ ⊢
    have g1 := gv_scalar 3 (hsW w k ++ [((w[k] % 31 : Nat) : Int)])
    have g2 := gv_cells 3 (hsW w k ++ [((w[k] % 31 : Nat) : Int)])
    generalize GV 3 (hsW w k ++ [((w[k] % 31 : Nat) : Int)]) = W1 at *
    generalize GV 3 (hsW w k) = V1 at *
    generalize GM (hsW w k ++ [((w[k] % 31 : Nat) : Int)]) = M1 at *
    generalize GM (hsW w k) = M0 at *
    generalize w[k] = x at *
    rw [top_shored.L0_eq]
    simp only [top_shored.B0,top_shored.B0.R0,beqT,beqF,exF_seq,exF_region,exF_block,exF_cond,exF_ret,exF_exit,exF_skip,runL,wantL,stepL,evL,evC,LEnv.at,putL,loadFine,loadL,cellsAt,Trk.putNew,Trk.up,Trk.touch,Trk.gives,Trk.calm,Trk.hit,opdsOf,Trk.fresh,LEnv.keep,LEnv.ofFrom,List.map_cons,List.map_nil,nbeq,nble,nblt,ofAV,ofAVs,bin_add,bin_sub,bin_mul,bin_eql,bin_neq,bin_lss,bin_leq,bin_gtr,bin_geq,natL_nat,natL_zero,natL_one,natL_two,Nat.zero_mul,List.any_cons,List.any_nil,Bool.or_false,Bool.false_or,Bool.true_or,Bool.or_true,Bool.and_true,Bool.true_and,Bool.and_false,Bool.false_and,Bool.not_true,Bool.not_false,Nat.reduceBEq,Nat.reduceEqDiff,decide_true,decide_false,cond_true,cond_false,List.filter_nil,List.filter_cons,Nat.reduceAdd,Nat.reduceLeDiff,reduceCtorEq,List.length_nil,List.length_cons,Nat.mul_one,if_true,if_false,Bool.false_eq_true,eq_self,and_true,true_and,retL,resultsL,resAllL,resOfL,List.append_nil,List.nil_append,List.cons_append,true_or,or_true,false_or,or_false,false_and,and_false,not_true_eq_false,not_false_eq_true,ne_eq,unL,trim_nil,views_pures,LV.pures,LV.pure,freeze,Nat.reduceDiv,Int.reduceEq,Int.reduceLT,Int.reduceLE,Int.natCast_zero,allocL,List.getElem?_cons_zero,List.getElem?_cons_succ,storeL,spliceL,List.take_zero,List.take_succ_cons,List.drop_zero,List.drop_succ_cons,List.drop_nil,List.take_nil,Nat.le_refl,Nat.reduceMul,List.set_cons_zero,List.set_cons_succ,List.all_cons,List.all_nil,Nat.lt_add_one,Nat.zero_lt_one,Nat.reduceLT,Nat.lt_irrefl,fillL,List.length_append,foldIntL,kind_beq,pures_int,solids_int,plains_int,unders_int,scalars_int,lenL,cellsI,show (k : Int) < (N : Int) by omega,List.length_map,hw,show k < N by omega,Nat.zero_add,hat,hcv,hrem,happ,g1,g2,wk,ih]
theorem quo7 {r : Nat} (h : 1 ≤ r ∧ r ≤ 6) : binL .quo (.int .i64 7) (.int .i64 (r : Int)) = some (.int .i64 ((7 / r : Nat) : Int)) := by
  have : r = 1 ∨ r = 2 ∨ r = 3 ∨ r = 4 ∨ r = 5 ∨ r = 6 := by omega
  rcases this with rfl | rfl | rfl | rfl | rfl | rfl <;> rfl
theorem view_agg3 (m : LMem) (a b V V' : LV) (ids : List Nat) (h : ∀ k,view (k + 3) m V = some (V',ids)) (ha : a.pure = true) (hb : b.pure = true) (hn : V.pure = false) : view 100 m (.agg [a,b,V]) = some (.agg [a,b,V'],ids) := by
  rw [view.eq_def]
  simp only
  rw [viewL.eq_def]
  simp only [show LV.pures [a,b,V] = false by simp [LV.pures,ha,hb,hn],cond_false]
  rw [viewC.eq_def]
  simp only [view_pure 95 m a ha]
  rw [viewC.eq_def]
  simp only [view_pure 94 m b hb]
  rw [viewC.eq_def]
  simp only [h]
  rw [viewC.eq_def]
  simp
theorem shored_c (a b : Nat) (ha : a < 256) (hb : b < 256) (w : List Nat) (hw : w.length = 7) (hwb : ∀ x ∈ w,x < 256) :
    ∃ (r c : Nat) (hs : List Int),Sho r c hs ∧ hs.length ≤ 7 ∧ ∀ m,clF LP n_top_shored [.int .u8 (a : Int),.int .u8 (b : Int),.agg (u8s w)] m = some (.P,.agg (SH r c false false 1 hs),m) := by
  have hr : 1 ≤ 1 + a % 6 ∧ 1 + a % 6 ≤ 6 := by omega
  generalize hrr : 1 + a % 6 = r at *
  have hq1 : 1 ≤ 7 / r := by
    have : r = 1 ∨ r = 2 ∨ r = 3 ∨ r = 4 ∨ r = 5 ∨ r = 6 := by omega
    rcases this with rfl | rfl | rfl | rfl | rfl | rfl <;> decide
  have hmul : r * (7 / r) ≤ 7 := Nat.mul_div_le 7 r
  have hmx : (if ((7 / r : Nat) : Int) < 6 then ((7 / r : Nat) : Int) else 6) = ((min 6 (7 / r) : Nat) : Int) := by
    split <;> omega
  have hq7 := quo7 hr
  generalize 7 / r = q at *
  have hm1 : 1 ≤ min 6 q := by omega
  generalize hmm : min 6 q = mn at *
  have hbm := Nat.mod_lt b (show mn > 0 by omega)
  have hc : 1 ≤ 1 + b % mn ∧ 1 + b % mn ≤ 6 := by omega
  have hcq : 1 + b % mn ≤ q := by omega
  have hremc := bin_rem .i64 (b : Int) (mn : Int) (by omega)
  rw [tmod_nat] at hremc
  have hwc : IntKind.i64.wrap (1 + ((b % mn : Nat) : Int)) = ((1 + b % mn : Nat) : Int) := by rw [wrap_in (by omega)]; omega
  generalize 1 + b % mn = c at *
  have hN : r * c ≤ 7 := Nat.le_trans (Nat.mul_le_mul_left r hcq) hmul
  have hN1 : 1 ≤ r * c := Nat.mul_le_mul hr.1 hc.1
  have hl : (hsW w (r * c)).length = r * c := by simp [hsW]; omega
  refine ⟨r,c,hsW w (r * c),⟨hr,hc,hl,by omega,?_⟩,by omega,fun m => ?_⟩
  · intro x hx
    obtain ⟨y,hy,rfl⟩ := List.mem_map.1 hx
    omega
  have h1 := fun g => shored_loop w hw hwb r c (r * c) hN g (r * c) 0 (by omega)
  have e0 : hsW w 0 = [] := rfl
  simp only [e0,MD,GV_nil,GM_nil,Int.natCast_zero] at h1
  have hne : hsW w (r * c) ≠ [] := fun h => by rw [h] at hl; simp at hl; omega
  have hv : view 100 (⟨u8s w,true⟩ :: ⟨[.int .i64 (r : Int),.int .i64 (c : Int),GV 3 (hsW w (r * c))],true⟩ :: ⟨[.int .i64 (r : Int),.int .i64 (c : Int),GV 3 (hsW w (r * c))],true⟩ :: GM (hsW w (r * c))) (.agg [.int .i64 (r : Int),.int .i64 (c : Int),GV 3 (hsW w (r * c))]) = some (.agg (SH r c false false 1 (hsW w (r * c))),[3]) := by
    refine view_agg3 _ _ _ _ _ _ (fun k => ?_) rfl rfl (by simp only [GV,if_neg hne]; rfl)
    have := view_gv k (⟨u8s w,true⟩ :: ⟨[.int .i64 (r : Int),.int .i64 (c : Int),GV 3 (hsW w (r * c))],true⟩ :: ⟨[.int .i64 (r : Int),.int .i64 (c : Int),GV 3 (hsW w (r * c))],true⟩ :: GM (hsW w (r * c))) 3 (hsW w (r * c)) true (fun h => by unfold GM; rw [if_neg h]; rfl)
    rw [this,if_neg hne]
    simp only [RL,hne,decide_false,cond_false]
  refine call_Pv lp_top_shored rfl (by simp only [LV.pures,LV.pure,pures_u8s,Bool.and_self]) (m1 := ⟨u8s w,true⟩ :: ⟨[.int .i64 (r : Int),.int .i64 (c : Int),GV 3 (hsW w (r * c))],true⟩ :: ⟨[.int .i64 (r : Int),.int .i64 (c : Int),GV 3 (hsW w (r * c))],true⟩ :: GM (hsW w (r * c))) ?_ hv m
  have hca := wrap_nat (n := a) (by omega)
  have hcb := wrap_nat (n := b) (by omega)
  have hrem6 := bin_rem .i64 (a : Int) 6 (by omega)
  rw [show (a : Int).tmod 6 = ((a % 6 : Nat) : Int) from tmod_nat _ 6] at hrem6
  have hwr : IntKind.i64.wrap (1 + ((a % 6 : Nat) : Int)) = (r : Int) := by rw [wrap_in (by omega)]; omega
  have hwm : IntKind.i64.wrap ((r : Int) * (c : Int)) = ((r * c : Nat) : Int) := by
    rw [← Int.natCast_mul]; exact wrap_nat (by omega)
  have g1 := gv_scalar 3 (hsW w (r * c))
  have hwl : (u8s w).length = 7 := by simp [hw]
  generalize r * c = N at *
  generalize GV 3 (hsW w N) = W1 at *
  generalize GM (hsW w N) = M1 at *
  simp only [top_shored,top_shored.B,top_shored.B.R0,top_shored.B.R1,beqT,beqF,exF_seq,exF_region,exF_block,exF_cond,exF_ret,exF_exit,exF_skip,runL,wantL,stepL,evL,evC,LEnv.at,putL,loadFine,loadL,cellsAt,Trk.putNew,Trk.up,Trk.touch,Trk.gives,Trk.calm,Trk.hit,opdsOf,Trk.fresh,LEnv.keep,LEnv.ofFrom,List.map_cons,List.map_nil,nbeq,nble,nblt,ofAV,ofAVs,bin_add,bin_sub,bin_mul,bin_eql,bin_neq,bin_lss,bin_leq,bin_gtr,bin_geq,natL_nat,natL_zero,natL_one,natL_two,Nat.zero_mul,List.any_cons,List.any_nil,Bool.or_false,Bool.false_or,Bool.true_or,Bool.or_true,Bool.and_true,Bool.true_and,Bool.and_false,Bool.false_and,Bool.not_true,Bool.not_false,Nat.reduceBEq,Nat.reduceEqDiff,decide_true,decide_false,cond_true,cond_false,List.filter_nil,List.filter_cons,Nat.reduceAdd,Nat.reduceLeDiff,reduceCtorEq,List.length_nil,List.length_cons,Nat.mul_one,if_true,if_false,Bool.false_eq_true,eq_self,and_true,true_and,retL,resultsL,resAllL,resOfL,List.append_nil,List.nil_append,List.cons_append,true_or,or_true,false_or,or_false,false_and,and_false,not_true_eq_false,not_false_eq_true,ne_eq,unL,trim_nil,views_pures,LV.pures,LV.pure,freeze,Nat.reduceDiv,Int.reduceEq,Int.reduceLT,Int.reduceLE,Int.natCast_zero,allocL,List.getElem?_cons_zero,List.getElem?_cons_succ,storeL,spliceL,List.take_zero,List.take_succ_cons,List.drop_zero,List.drop_succ_cons,List.drop_nil,List.take_nil,Nat.le_refl,Nat.reduceMul,List.set_cons_zero,List.set_cons_succ,List.all_cons,List.all_nil,Nat.lt_add_one,Nat.zero_lt_one,Nat.reduceLT,Nat.lt_irrefl,fillL,List.length_append,foldIntL,kind_beq,pures_int,solids_int,plains_int,unders_int,scalars_int,lenL,cellsI,cellsA,scalarI,scalarN,hwl,hca,hcb,hrem6,hwr,hq7,hmx,hremc,hwc,hwm,sliceArrL,optNatL,Option.map_some,Option.map_none,Nat.zero_le,Nat.zero_add,hN,Nat.sub_zero,h1,g1]
theorem rising_loop (n : Nat) (l : List Nat) (hlt : ∀ x ∈ l,x < n) (hasc : ∀ i (h : i + 1 < l.length),l[i] < l[i + 1]) (hl : l.length < 1000000) (nl ex : Bool) (sz : Nat) (m : LMem) (t : Nat) : ∀ j,j + t = l.length →
    exF LP top_risingBelow.L0 [(0,IL nl ex sz (ci l)),(1,.int .i64 (n : Int)),(7,IL nl ex sz (ci l)),(8,.int .i64 (l.length : Int)),(9,.int .i64 (j : Int))] m = some (.exit 0,[],m) := by
  induction t with
  | zero =>
    intro j hj
    obtain rfl : j = l.length := by omega
    rw [top_risingBelow.L0_eq]
    simp only [top_risingBelow.B0,beqT,beqF,exF_seq,exF_region,exF_block,exF_cond,exF_ret,exF_exit,exF_skip,runL,wantL,stepL,evL,evC,LEnv.at,putL,loadFine,loadL,cellsAt,Trk.putNew,Trk.up,Trk.touch,Trk.gives,Trk.calm,Trk.hit,opdsOf,Trk.fresh,LEnv.keep,LEnv.ofFrom,List.map_cons,List.map_nil,nbeq,nble,nblt,ofAV,ofAVs,lenL,bin_add,bin_sub,bin_mul,bin_eql,bin_neq,bin_lss,bin_leq,bin_gtr,bin_geq,natL_nat,natL_zero,natL_one,natL_two,Nat.zero_mul,List.any_cons,List.any_nil,Bool.or_false,Bool.false_or,Bool.true_or,Bool.or_true,Bool.and_true,Bool.true_and,Bool.and_false,Bool.false_and,Bool.not_true,Bool.not_false,Nat.reduceBEq,Nat.reduceEqDiff,decide_true,decide_false,cond_true,cond_false,List.filter_nil,List.filter_cons,Nat.reduceAdd,Nat.reduceLeDiff,reduceCtorEq,List.length_nil,List.length_cons,Nat.mul_one,if_true,if_false,Bool.false_eq_true,eq_self,and_true,true_and,retL,resultsL,resAllL,resOfL,List.append_nil,List.nil_append,List.cons_append,true_or,or_true,false_or,or_false,false_and,and_false,not_true_eq_false,not_false_eq_true,ne_eq,unL,trim_nil,views_pures,LV.pures,LV.pure,freeze,Nat.reduceDiv,Int.reduceEq,Int.reduceLT,Int.reduceLE,Int.natCast_zero,LV.cells,allocL,List.getElem?_cons_zero,List.getElem?_cons_succ,storeL,spliceL,List.take_zero,List.take_succ_cons,List.drop_zero,List.drop_succ_cons,List.drop_nil,List.take_nil,Nat.le_refl,Nat.reduceMul,List.set_cons_zero,List.set_cons_succ,LV.scalar,List.all_cons,List.all_nil,Nat.lt_add_one,Nat.zero_lt_one,Nat.reduceLT,Nat.lt_irrefl,fillL,List.length_append,foldIntL,kind_beq,pures_int,solids_int,plains_int,unders_int,scalars_int,Int.lt_irrefl]
  | succ t ih =>
    intro j hj
    have h2 : j < l.length := by omega
    have ih := ih (j + 1) (by omega)
    have hx := hlt _ (List.getElem_mem h2)
    have hat := ci_at l j h2
    have wk := wrap_succ (show j + 1 < 9223372036854775808 by omega)
    rw [top_risingBelow.L0_eq]
    by_cases h0 : j = 0
    · subst h0
      simp only [Int.natCast_zero] at hat ih ⊢
      generalize l[0] = x at *
      simp only [top_risingBelow.B0,top_risingBelow.B0.R0,beqT,beqF,exF_seq,exF_region,exF_block,exF_cond,exF_ret,exF_exit,exF_skip,runL,wantL,stepL,evL,evC,LEnv.at,putL,loadFine,loadL,cellsAt,Trk.putNew,Trk.up,Trk.touch,Trk.gives,Trk.calm,Trk.hit,opdsOf,Trk.fresh,LEnv.keep,LEnv.ofFrom,List.map_cons,List.map_nil,nbeq,nble,nblt,ofAV,ofAVs,lenL,bin_add,bin_sub,bin_mul,bin_eql,bin_neq,bin_lss,bin_leq,bin_gtr,bin_geq,natL_nat,natL_zero,natL_one,natL_two,Nat.zero_mul,List.any_cons,List.any_nil,Bool.or_false,Bool.false_or,Bool.true_or,Bool.or_true,Bool.and_true,Bool.true_and,Bool.and_false,Bool.false_and,Bool.not_true,Bool.not_false,Nat.reduceBEq,Nat.reduceEqDiff,decide_true,decide_false,cond_true,cond_false,List.filter_nil,List.filter_cons,Nat.reduceAdd,Nat.reduceLeDiff,reduceCtorEq,List.length_nil,List.length_cons,Nat.mul_one,if_true,if_false,Bool.false_eq_true,eq_self,and_true,true_and,retL,resultsL,resAllL,resOfL,List.append_nil,List.nil_append,List.cons_append,true_or,or_true,false_or,or_false,false_and,and_false,not_true_eq_false,not_false_eq_true,ne_eq,unL,trim_nil,views_pures,LV.pures,LV.pure,freeze,Nat.reduceDiv,Int.reduceEq,Int.reduceLT,Int.reduceLE,Int.natCast_zero,LV.cells,allocL,List.getElem?_cons_zero,List.getElem?_cons_succ,storeL,spliceL,List.take_zero,List.take_succ_cons,List.drop_zero,List.drop_succ_cons,List.drop_nil,List.take_nil,Nat.le_refl,Nat.reduceMul,List.set_cons_zero,List.set_cons_succ,LV.scalar,List.all_cons,List.all_nil,Nat.lt_add_one,Nat.zero_lt_one,Nat.reduceLT,Nat.lt_irrefl,fillL,List.length_append,foldIntL,kind_beq,pures_int,solids_int,plains_int,unders_int,scalars_int,show (0 : Int) < (l.length : Int) by omega,List.length_map,h2,hat,show ¬ ((x : Int) < 0) by omega,show ¬ ((x : Int) ≥ (n : Int)) by omega,show ¬ ((n : Int) ≤ (x : Int)) by omega,Int.lt_irrefl,show ¬ ((0 : Int) > 0) by omega,show IntKind.i64.wrap (0 + 1) = ((1 : Nat) : Int) by rfl,ih]
    · have ha := hasc (j - 1) (by omega)
      have e2 : l[j - 1 + 1] = l[j] := by congr 1; omega
      have hat1 := ci_at l (j - 1) (by omega)
      have hw1 : IntKind.i64.wrap ((j : Int) - 1) = ((j - 1 : Nat) : Int) := by rw [wrap_in (by omega)]; omega
      have hlt1 : j - 1 < l.length := by omega
      rw [e2] at ha
      generalize l[j] = x at *
      generalize l[j - 1] = y at *
      simp only [top_risingBelow.B0,top_risingBelow.B0.R0,beqT,beqF,exF_seq,exF_region,exF_block,exF_cond,exF_ret,exF_exit,exF_skip,runL,wantL,stepL,evL,evC,LEnv.at,putL,loadFine,loadL,cellsAt,Trk.putNew,Trk.up,Trk.touch,Trk.gives,Trk.calm,Trk.hit,opdsOf,Trk.fresh,LEnv.keep,LEnv.ofFrom,List.map_cons,List.map_nil,nbeq,nble,nblt,ofAV,ofAVs,lenL,bin_add,bin_sub,bin_mul,bin_eql,bin_neq,bin_lss,bin_leq,bin_gtr,bin_geq,natL_nat,natL_zero,natL_one,natL_two,Nat.zero_mul,List.any_cons,List.any_nil,Bool.or_false,Bool.false_or,Bool.true_or,Bool.or_true,Bool.and_true,Bool.true_and,Bool.and_false,Bool.false_and,Bool.not_true,Bool.not_false,Nat.reduceBEq,Nat.reduceEqDiff,decide_true,decide_false,cond_true,cond_false,List.filter_nil,List.filter_cons,Nat.reduceAdd,Nat.reduceLeDiff,reduceCtorEq,List.length_nil,List.length_cons,Nat.mul_one,if_true,if_false,Bool.false_eq_true,eq_self,and_true,true_and,retL,resultsL,resAllL,resOfL,List.append_nil,List.nil_append,List.cons_append,true_or,or_true,false_or,or_false,false_and,and_false,not_true_eq_false,not_false_eq_true,ne_eq,unL,trim_nil,views_pures,LV.pures,LV.pure,freeze,Nat.reduceDiv,Int.reduceEq,Int.reduceLT,Int.reduceLE,Int.natCast_zero,LV.cells,allocL,List.getElem?_cons_zero,List.getElem?_cons_succ,storeL,spliceL,List.take_zero,List.take_succ_cons,List.drop_zero,List.drop_succ_cons,List.drop_nil,List.take_nil,Nat.le_refl,Nat.reduceMul,List.set_cons_zero,List.set_cons_succ,LV.scalar,List.all_cons,List.all_nil,Nat.lt_add_one,Nat.zero_lt_one,Nat.reduceLT,Nat.lt_irrefl,fillL,List.length_append,foldIntL,kind_beq,pures_int,solids_int,plains_int,unders_int,scalars_int,show (j : Int) < (l.length : Int) by omega,List.length_map,h2,hat,hat1,hw1,hlt1,show ¬ ((x : Int) < 0) by omega,show ¬ ((x : Int) ≥ (n : Int)) by omega,show ¬ ((n : Int) ≤ (x : Int)) by omega,show ((j : Int) > 0) by omega,show ((0 : Int) < (j : Int)) by omega,show ¬ ((x : Int) ≤ (y : Int)) by omega,wk,ih]
theorem rising_c (n : Nat) (l : List Nat) (hlt : ∀ x ∈ l,x < n) (hasc : ∀ i (h : i + 1 < l.length),l[i] < l[i + 1]) (hl : l.length < 1000000) (nl ex : Bool) (sz : Nat) (m : LMem) :
    clF LP n_top_risingBelow [IL nl ex sz (ci l),.int .i64 (n : Int)] m = some (.P,.bool true,m) := by
  have h1 := rising_loop n l hlt hasc hl nl ex sz [] l.length 0 (by omega)
  simp only [Int.natCast_zero] at h1
  refine call_P lp_top_risingBelow rfl (by simp only [LV.pures,LV.pure,pures_int,Bool.and_self]) (m1 := []) ?_ rfl m
  simp only [top_risingBelow,top_risingBelow.B,beqT,beqF,exF_seq,exF_region,exF_block,exF_cond,exF_ret,exF_exit,exF_skip,runL,wantL,stepL,evL,evC,LEnv.at,putL,loadFine,loadL,cellsAt,Trk.putNew,Trk.up,Trk.touch,Trk.gives,Trk.calm,Trk.hit,opdsOf,Trk.fresh,LEnv.keep,LEnv.ofFrom,List.map_cons,List.map_nil,nbeq,nble,nblt,ofAV,ofAVs,lenL,bin_add,bin_sub,bin_mul,bin_eql,bin_neq,bin_lss,bin_leq,bin_gtr,bin_geq,natL_nat,natL_zero,natL_one,natL_two,Nat.zero_mul,List.any_cons,List.any_nil,Bool.or_false,Bool.false_or,Bool.true_or,Bool.or_true,Bool.and_true,Bool.true_and,Bool.and_false,Bool.false_and,Bool.not_true,Bool.not_false,Nat.reduceBEq,Nat.reduceEqDiff,decide_true,decide_false,cond_true,cond_false,List.filter_nil,List.filter_cons,Nat.reduceAdd,Nat.reduceLeDiff,reduceCtorEq,List.length_nil,List.length_cons,Nat.mul_one,if_true,if_false,Bool.false_eq_true,eq_self,and_true,true_and,retL,resultsL,resAllL,resOfL,List.append_nil,List.nil_append,List.cons_append,true_or,or_true,false_or,or_false,false_and,and_false,not_true_eq_false,not_false_eq_true,ne_eq,unL,trim_nil,views_pures,LV.pures,LV.pure,freeze,Nat.reduceDiv,Int.reduceEq,Int.reduceLT,Int.reduceLE,Int.natCast_zero,LV.cells,allocL,List.getElem?_cons_zero,List.getElem?_cons_succ,storeL,spliceL,List.take_zero,List.take_succ_cons,List.drop_zero,List.drop_succ_cons,List.drop_nil,List.take_nil,Nat.le_refl,Nat.reduceMul,List.set_cons_zero,List.set_cons_succ,LV.scalar,List.all_cons,List.all_nil,Nat.lt_add_one,Nat.zero_lt_one,Nat.reduceLT,Nat.lt_irrefl,fillL,List.length_append,foldIntL,kind_beq,pures_int,solids_int,plains_int,unders_int,scalars_int,List.length_map,h1]
end Go.Am.Top
