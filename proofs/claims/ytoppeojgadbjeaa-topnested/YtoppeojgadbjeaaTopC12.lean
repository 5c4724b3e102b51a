/-
  What functions of chapter 03 compute, 6: what is shown of forms in an order; an order fits if they all lie ahead in it.
-/
import Derived.Test.YtoppeojgadbjeaaTopC10
set_option linter.unusedVariables false
set_option linter.unusedSimpArgs false
set_option maxRecDepth 10000
namespace Go.Am.Top
open Go.Am.G
theorem istep_lt {pl : Nat → Nat} {F : Nat} : ∀ (l : List Nat) (s : Nat),s < 128 → (∀ x ∈ l,pl x < 7) → l.foldl (istep pl F) s < 128
  | [],s,h,_ => h
  | x :: l,s,h,hp => by
    rw [List.foldl_cons]
    refine istep_lt l _ ?_ fun y hy => hp y (by simp [hy])
    unfold istep
    have h1 := hp x (by simp)
    have : (2 : Nat) ^ pl x < 2 ^ 7 := Nat.pow_lt_pow_right (by omega) h1
    split
    · exact Nat.or_lt_two_pow (n := 7) h this
    · exact h
abbrev im (o : List Nat) (n F : Nat) : Nat := img (fun x => o.idxOf x) n F
theorem shown0_loop {n : Nat} {o : List Nat} (O : Ord n o) (hn : n ≤ 7) (F : Nat) (hF : F < 256) (PL G RV : LV) (rl k : Nat) (M : LMem) (t : Nat) : ∀ j,j + t = n →
    exF LP style_shown.L0 [(8,PL),(9,G),(11,.int .u8 (F : Int)),(12,.int .u8 (((List.range j).foldl (istep (fun x => o.idxOf x) F) 0 : Nat) : Int)),(33,RV),(34,.int .i64 (rl : Int)),(35,.int .i64 (k : Int)),(39,IL false true 1 (ci (plN o n))),(40,.int .i64 (n : Int)),(41,.int .i64 (j : Int))] M =
      some (.exit 2,[(8,PL),(9,G),(12,.int .u8 ((im o n F : Nat) : Int)),(33,RV),(34,.int .i64 (rl : Int)),(35,.int .i64 (k : Int))],M) := by
  induction t with
  | zero =>
    intro j hj
    obtain rfl : j = n := by omega
    rw [style_shown.L0_eq]
    simp only [style_shown.B0,beqT,beqF,exF_seq,exF_region,exF_block,exF_cond,exF_ret,exF_exit,exF_skip,runL,wantL,stepL,evL,evC,LEnv.at,putL,loadFine,loadL,cellsAt,Trk.putNew,Trk.up,Trk.touch,Trk.gives,Trk.calm,Trk.hit,opdsOf,Trk.fresh,LEnv.keep,LEnv.ofFrom,List.map_cons,List.map_nil,nbeq,nble,nblt,ofAV,ofAVs,lenL,bin_add,bin_sub,bin_mul,bin_eql,bin_neq,bin_lss,bin_leq,bin_gtr,bin_geq,natL_nat,natL_zero,natL_one,natL_two,Nat.zero_mul,List.any_cons,List.any_nil,Bool.or_false,Bool.false_or,Bool.true_or,Bool.or_true,Bool.and_true,Bool.true_and,Bool.and_false,Bool.false_and,Bool.not_true,Bool.not_false,Nat.reduceBEq,Nat.reduceEqDiff,decide_true,decide_false,cond_true,cond_false,List.filter_nil,List.filter_cons,Nat.reduceAdd,Nat.reduceLeDiff,reduceCtorEq,List.length_nil,List.length_cons,Nat.mul_one,if_true,if_false,Bool.false_eq_true,eq_self,and_true,true_and,retL,resultsL,resAllL,resOfL,List.append_nil,List.nil_append,List.cons_append,true_or,or_true,false_or,or_false,false_and,and_false,not_true_eq_false,not_false_eq_true,ne_eq,unL,trim_nil,views_pures,LV.pures,LV.pure,freeze,Nat.reduceDiv,Int.reduceEq,Int.reduceLT,Int.reduceLE,Int.natCast_zero,LV.cells,allocL,List.getElem?_cons_zero,List.getElem?_cons_succ,storeL,spliceL,List.take_zero,List.take_succ_cons,List.drop_zero,List.drop_succ_cons,List.drop_nil,List.take_nil,Nat.le_refl,Nat.reduceMul,List.set_cons_zero,List.set_cons_succ,LV.scalar,List.all_cons,List.all_nil,Nat.lt_add_one,Nat.zero_lt_one,Nat.reduceLT,Nat.lt_irrefl,fillL,List.length_append,foldIntL,kind_beq,pures_int,solids_int,plains_int,unders_int,scalars_int,Int.lt_irrefl]
    rfl
  | succ t ih =>
    intro j hj
    have h2 : j < n := by omega
    have ih := ih (j + 1) (by omega)
    have hid := List.idxOf_lt_length_of_mem (O.mem h2)
    rw [O.len] at hid
    have hs : (List.range j).foldl (istep (fun x => o.idxOf x) F) 0 < 128 := istep_lt _ _ (by omega) fun x hx => by
      have := List.idxOf_lt_length_of_mem (O.mem (show x < n by have := List.mem_range.1 hx; omega))
      rw [O.len] at this
      show o.idxOf x < 7
      omega
    have hlen : (plN o n).length = n := by simp
    have hat := ci_at (plN o n) j (by omega)
    have e : (plN o n)[j]'(by omega) = o.idxOf j := by simp
    rw [e] at hat
    have hh := fun m => has_c (s := F) (i := j) hF (by omega) m
    have hw := fun m => with_c (s := (List.range j).foldl (istep (fun x => o.idxOf x) F) 0) (i := o.idxOf j) (by omega) (by omega) m
    have wk := wrap_succ (show j + 1 < 9223372036854775808 by omega)
    rw [List.range_succ,List.foldl_append,List.foldl_cons,List.foldl_nil] at ih
    generalize (List.range j).foldl (istep (fun x => o.idxOf x) F) 0 = s at *
    rw [style_shown.L0_eq]
    cases hb : F.testBit j
    · rw [hb] at hh
      have es : istep (fun x => o.idxOf x) F s j = s := by simp [istep,hb]
      rw [es] at ih
      simp only [style_shown.B0,beqT,beqF,exF_seq,exF_region,exF_block,exF_cond,exF_ret,exF_exit,exF_skip,runL,wantL,stepL,evL,evC,LEnv.at,putL,loadFine,loadL,cellsAt,Trk.putNew,Trk.up,Trk.touch,Trk.gives,Trk.calm,Trk.hit,opdsOf,Trk.fresh,LEnv.keep,LEnv.ofFrom,List.map_cons,List.map_nil,nbeq,nble,nblt,ofAV,ofAVs,lenL,bin_add,bin_sub,bin_mul,bin_eql,bin_neq,bin_lss,bin_leq,bin_gtr,bin_geq,natL_nat,natL_zero,natL_one,natL_two,Nat.zero_mul,List.any_cons,List.any_nil,Bool.or_false,Bool.false_or,Bool.true_or,Bool.or_true,Bool.and_true,Bool.true_and,Bool.and_false,Bool.false_and,Bool.not_true,Bool.not_false,Nat.reduceBEq,Nat.reduceEqDiff,decide_true,decide_false,cond_true,cond_false,List.filter_nil,List.filter_cons,Nat.reduceAdd,Nat.reduceLeDiff,reduceCtorEq,List.length_nil,List.length_cons,Nat.mul_one,if_true,if_false,Bool.false_eq_true,eq_self,and_true,true_and,retL,resultsL,resAllL,resOfL,List.append_nil,List.nil_append,List.cons_append,true_or,or_true,false_or,or_false,false_and,and_false,not_true_eq_false,not_false_eq_true,ne_eq,unL,trim_nil,views_pures,LV.pures,LV.pure,freeze,Nat.reduceDiv,Int.reduceEq,Int.reduceLT,Int.reduceLE,Int.natCast_zero,LV.cells,allocL,List.getElem?_cons_zero,List.getElem?_cons_succ,storeL,spliceL,List.take_zero,List.take_succ_cons,List.drop_zero,List.drop_succ_cons,List.drop_nil,List.take_nil,Nat.le_refl,Nat.reduceMul,List.set_cons_zero,List.set_cons_succ,LV.scalar,List.all_cons,List.all_nil,Nat.lt_add_one,Nat.zero_lt_one,Nat.reduceLT,Nat.lt_irrefl,fillL,List.length_append,foldIntL,kind_beq,pures_int,solids_int,plains_int,unders_int,scalars_int,show (j : Int) < (n : Int) by omega,List.length_map,hlen,h2,hat,hh,wk,ih,List.length_range]
    · rw [hb] at hh
      have es : istep (fun x => o.idxOf x) F s j = s ||| 2 ^ o.idxOf j := by simp [istep,hb]
      rw [es] at ih
      simp only [style_shown.B0,beqT,beqF,exF_seq,exF_region,exF_block,exF_cond,exF_ret,exF_exit,exF_skip,runL,wantL,stepL,evL,evC,LEnv.at,putL,loadFine,loadL,cellsAt,Trk.putNew,Trk.up,Trk.touch,Trk.gives,Trk.calm,Trk.hit,opdsOf,Trk.fresh,LEnv.keep,LEnv.ofFrom,List.map_cons,List.map_nil,nbeq,nble,nblt,ofAV,ofAVs,lenL,bin_add,bin_sub,bin_mul,bin_eql,bin_neq,bin_lss,bin_leq,bin_gtr,bin_geq,natL_nat,natL_zero,natL_one,natL_two,Nat.zero_mul,List.any_cons,List.any_nil,Bool.or_false,Bool.false_or,Bool.true_or,Bool.or_true,Bool.and_true,Bool.true_and,Bool.and_false,Bool.false_and,Bool.not_true,Bool.not_false,Nat.reduceBEq,Nat.reduceEqDiff,decide_true,decide_false,cond_true,cond_false,List.filter_nil,List.filter_cons,Nat.reduceAdd,Nat.reduceLeDiff,reduceCtorEq,List.length_nil,List.length_cons,Nat.mul_one,if_true,if_false,Bool.false_eq_true,eq_self,and_true,true_and,retL,resultsL,resAllL,resOfL,List.append_nil,List.nil_append,List.cons_append,true_or,or_true,false_or,or_false,false_and,and_false,not_true_eq_false,not_false_eq_true,ne_eq,unL,trim_nil,views_pures,LV.pures,LV.pure,freeze,Nat.reduceDiv,Int.reduceEq,Int.reduceLT,Int.reduceLE,Int.natCast_zero,LV.cells,allocL,List.getElem?_cons_zero,List.getElem?_cons_succ,storeL,spliceL,List.take_zero,List.take_succ_cons,List.drop_zero,List.drop_succ_cons,List.drop_nil,List.take_nil,Nat.le_refl,Nat.reduceMul,List.set_cons_zero,List.set_cons_succ,LV.scalar,List.all_cons,List.all_nil,Nat.lt_add_one,Nat.zero_lt_one,Nat.reduceLT,Nat.lt_irrefl,fillL,List.length_append,foldIntL,kind_beq,pures_int,solids_int,plains_int,unders_int,scalars_int,show (j : Int) < (n : Int) by omega,List.length_map,hlen,h2,hat,hh,hw,wk,ih,List.length_range]
abbrev ims (o : List Nat) (n : Nat) (fs : List Nat) : List Nat := fs.map (im o n)
def MW (n : Nat) (V W : LV) (l : List Nat) : LMem := ⟨[.int .i64 (n : Int),V],true⟩ :: ⟨[.int .i64 (n : Int),W],true⟩ :: GMc l.length (u8s l)
theorem shown1_loop {n : Nat} {o : List Nat} (O : Ord n o) (hn : n ≤ 7) (fs : List Nat) (hfs : ∀ F ∈ fs,F < 256) (hl : fs.length < 1000000) (V W : LV) (vl ve : Bool) (vz : Nat) (t : Nat) : ∀ k,k + t = fs.length →
    exF LP style_shown.L1 [(8,IL false true 1 (ci (plN o n))),(9,GVc 2 1 k),(33,UV vl ve vz fs),(34,.int .i64 (fs.length : Int)),(35,.int .i64 (k : Int))] (MW n V W (ims o n (fs.take k))) =
      some (.exit 0,[(9,GVc 2 1 fs.length)],MW n V W (ims o n fs)) := by
  induction t with
  | zero =>
    intro k hk
    obtain rfl : k = fs.length := by omega
    rw [style_shown.L1_eq,List.take_length]
    simp only [style_shown.B1,beqT,beqF,exF_seq,exF_region,exF_block,exF_cond,exF_ret,exF_exit,exF_skip,runL,wantL,stepL,evL,evC,LEnv.at,putL,loadFine,loadL,cellsAt,Trk.putNew,Trk.up,Trk.touch,Trk.gives,Trk.calm,Trk.hit,opdsOf,Trk.fresh,LEnv.keep,LEnv.ofFrom,List.map_cons,List.map_nil,nbeq,nble,nblt,ofAV,ofAVs,lenL,bin_add,bin_sub,bin_mul,bin_eql,bin_neq,bin_lss,bin_leq,bin_gtr,bin_geq,natL_nat,natL_zero,natL_one,natL_two,Nat.zero_mul,List.any_cons,List.any_nil,Bool.or_false,Bool.false_or,Bool.true_or,Bool.or_true,Bool.and_true,Bool.true_and,Bool.and_false,Bool.false_and,Bool.not_true,Bool.not_false,Nat.reduceBEq,Nat.reduceEqDiff,decide_true,decide_false,cond_true,cond_false,List.filter_nil,List.filter_cons,Nat.reduceAdd,Nat.reduceLeDiff,reduceCtorEq,List.length_nil,List.length_cons,Nat.mul_one,if_true,if_false,Bool.false_eq_true,eq_self,and_true,true_and,retL,resultsL,resAllL,resOfL,List.append_nil,List.nil_append,List.cons_append,true_or,or_true,false_or,or_false,false_and,and_false,not_true_eq_false,not_false_eq_true,ne_eq,unL,trim_nil,views_pures,LV.pures,LV.pure,freeze,Nat.reduceDiv,Int.reduceEq,Int.reduceLT,Int.reduceLE,Int.natCast_zero,LV.cells,allocL,List.getElem?_cons_zero,List.getElem?_cons_succ,storeL,spliceL,List.take_zero,List.take_succ_cons,List.drop_zero,List.drop_succ_cons,List.drop_nil,List.take_nil,Nat.le_refl,Nat.reduceMul,List.set_cons_zero,List.set_cons_succ,LV.scalar,List.all_cons,List.all_nil,Nat.lt_add_one,Nat.zero_lt_one,Nat.reduceLT,Nat.lt_irrefl,fillL,List.length_append,foldIntL,kind_beq,pures_int,solids_int,plains_int,unders_int,scalars_int,Int.lt_irrefl]
  | succ t ih =>
    intro k hk
    have h2 : k < fs.length := by omega
    have ih := ih (k + 1) (by omega)
    have hm := List.getElem_mem h2
    have hat := u8_at fs k h2
    have htk : ims o n (fs.take (k + 1)) = ims o n (fs.take k) ++ [im o n fs[k]] := by
      unfold ims
      rw [List.take_succ_eq_append_getElem h2,List.map_append]; rfl
    have hlk : (ims o n (fs.take k)).length = k := by simp [ims]; omega
    have h0 := fun G M => shown0_loop O hn fs[k] (hfs _ hm) (IL false true 1 (ci (plN o n))) G (UV vl ve vz fs) fs.length k M n 0 (by omega)
    have happ := append_c [⟨[.int .i64 (n : Int),V],true⟩,⟨[.int .i64 (n : Int),W],true⟩] [] 1 1 k (u8s (ims o n (fs.take k))) [.int .u8 ((im o n fs[k] : Nat) : Int)] true (by simp [hlk]; omega) rfl rfl (by omega) (by omega) (.inr rfl)
    have hu : u8s (ims o n (fs.take k) ++ [im o n fs[k]]) = u8s (ims o n (fs.take k)) ++ [.int .u8 ((im o n fs[k] : Nat) : Int)] := by simp [u8s]
    have wk := wrap_succ (show k + 1 < 9223372036854775808 by omega)
    rw [htk] at ih
    simp only [MW,hu,hlk,List.length_append,List.length_singleton] at ih ⊢
    simp only [List.cons_append,List.nil_append,List.append_nil,List.length_cons,List.length_nil,Nat.zero_add,Nat.reduceAdd] at happ
    simp only [List.range_zero,List.foldl_nil,Int.natCast_zero] at h0
    have hpl : (ci (plN o n)).length = n := by simp
    generalize GVc 2 1 (k + 1) = W1 at *
    generalize GVc 2 1 k = V1 at *
    generalize GMc (k + 1) (u8s (ims o n (fs.take k)) ++ [LV.int .u8 ((im o n fs[k] : Nat) : Int)]) = M1 at *
    generalize GMc k (u8s (ims o n (fs.take k))) = M0 at *
    rw [style_shown.L1_eq]
    simp only [style_shown.B1,beqT,beqF,exF_seq,exF_region,exF_block,exF_cond,exF_ret,exF_exit,exF_skip,runL,wantL,stepL,evL,evC,LEnv.at,putL,loadFine,loadL,cellsAt,Trk.putNew,Trk.up,Trk.touch,Trk.gives,Trk.calm,Trk.hit,opdsOf,Trk.fresh,LEnv.keep,LEnv.ofFrom,List.map_cons,List.map_nil,nbeq,nble,nblt,ofAV,ofAVs,bin_add,bin_sub,bin_mul,bin_eql,bin_neq,bin_lss,bin_leq,bin_gtr,bin_geq,natL_nat,natL_zero,natL_one,natL_two,Nat.zero_mul,List.any_cons,List.any_nil,Bool.or_false,Bool.false_or,Bool.true_or,Bool.or_true,Bool.and_true,Bool.true_and,Bool.and_false,Bool.false_and,Bool.not_true,Bool.not_false,Nat.reduceBEq,Nat.reduceEqDiff,decide_true,decide_false,cond_true,cond_false,List.filter_nil,List.filter_cons,Nat.reduceAdd,Nat.reduceLeDiff,reduceCtorEq,List.length_nil,List.length_cons,Nat.mul_one,if_true,if_false,Bool.false_eq_true,eq_self,and_true,true_and,retL,resultsL,resAllL,resOfL,List.append_nil,List.nil_append,List.cons_append,true_or,or_true,false_or,or_false,false_and,and_false,not_true_eq_false,not_false_eq_true,ne_eq,unL,trim_nil,views_pures,LV.pures,LV.pure,freeze,Nat.reduceDiv,Int.reduceEq,Int.reduceLT,Int.reduceLE,Int.natCast_zero,allocL,List.getElem?_cons_zero,List.getElem?_cons_succ,storeL,spliceL,List.take_zero,List.take_succ_cons,List.drop_zero,List.drop_succ_cons,List.drop_nil,List.take_nil,Nat.le_refl,Nat.reduceMul,List.set_cons_zero,List.set_cons_succ,List.all_cons,List.all_nil,Nat.lt_add_one,Nat.zero_lt_one,Nat.reduceLT,Nat.lt_irrefl,fillL,List.length_append,foldIntL,kind_beq,pures_int,solids_int,plains_int,unders_int,scalars_int,lenL,cellsI,show (k : Int) < (fs.length : Int) by omega,h2,hat,hpl,h0,happ,wk,ih]
theorem shown_c {n : Nat} {o : List Nat} (O : Ord n o) (R : List (List Nat)) (F : Fms n R) (fl fe : Bool) (fz : Nat) (nl ex : Bool) (sz : Nat) (m : LMem) :
    clF LP n_style_shown [.agg [.int .i64 (n : Int),RF fl fe fz R],IL nl ex sz (ci o)] m = some (.P,.tup [RU (ims o n (sets R)),.int .i64 0],m) := by
  have hn := F.nb.2
  have hp : 2 ^ n ≤ 2 ^ 7 := Nat.pow_le_pow_right (by omega) hn
  have hfs : ∀ G ∈ sets R,G < 256 := fun G hG => by
    obtain ⟨l,hl,rfl⟩ := List.mem_map.1 hG
    have := bitsL_lt l n (F.lt l hl)
    omega
  have hlr : (sets R).length < 1000000 := by have := F.few; simp [sets]; omega
  have ho := fun m => opened_c n R F fl fe fz m
  have hpl := fun a b c m => places_c O hn a b c (sets R) nl ex sz m
  have h1 := fun a b c => shown1_loop O hn (sets R) hfs hlr (RF fl fe fz R) (RU (sets R)) a b c (sets R).length 0 (by omega)
  have e0 : GVc 2 1 0 = .lst true true 0 0 [] := rfl
  have e1 : GMc 0 (u8s []) = [] := rfl
  have e2 : ims o n ((sets R).take 0) = [] := rfl
  have hli : (ims o n (sets R)).length = (sets R).length := by simp
  rw [e2,e0] at h1
  simp only [MW,List.length_nil,e1,Int.natCast_zero,hli] at h1
  have hv : ∃ ids,view 100 (⟨[.int .i64 (n : Int),RF fl fe fz R],true⟩ :: ⟨[.int .i64 (n : Int),RU (sets R)],true⟩ :: GMc (sets R).length (u8s (ims o n (sets R)))) (.tup [GVc 2 1 (sets R).length,.int .i64 0]) = some (.tup [RU (ims o n (sets R)),.int .i64 0],ids) := by
    have h3 := fun k => view_c k [⟨[.int .i64 (n : Int),RF fl fe fz R],true⟩,⟨[.int .i64 (n : Int),RU (sets R)],true⟩] [] 1 (sets R).length (u8s (ims o n (sets R))) (by simp) (pures_u8s _) (by omega)
    simp only [List.append_nil,List.cons_append,List.nil_append,List.length_cons,List.length_nil,Nat.zero_add,Nat.reduceAdd] at h3
    by_cases h0 : (sets R).length = 0
    · have es : sets R = [] := by simpa using h0
      rw [es]
      exact ⟨[],rfl⟩
    · refine ⟨if (sets R).length = 0 then [] else [2],view_tup2 _ _ _ _ _ (fun k => ?_) rfl (by simp [LV.pures,LV.pure,GVc,show ¬ R.length = 0 by simpa [sets] using h0])⟩
      have := h3 k
      rw [this]
      simp only [RU,hli]
  obtain ⟨ids,hv⟩ := hv
  refine call_Pv lp_style_shown rfl (by simp only [LV.pures,LV.pure,pures_rows,pures_int,Bool.and_self]) (m1 := ⟨[.int .i64 (n : Int),RF fl fe fz R],true⟩ :: ⟨[.int .i64 (n : Int),RU (sets R)],true⟩ :: GMc (sets R).length (u8s (ims o n (sets R)))) ?_ hv m
  generalize GVc 2 1 (sets R).length = W at *
  generalize GMc (sets R).length (u8s (ims o n (sets R))) = M1 at *
  simp only [style_shown,style_shown.B,beqT,beqF,exF_seq,exF_region,exF_block,exF_cond,exF_ret,exF_exit,exF_skip,runL,wantL,stepL,evL,evC,LEnv.at,putL,loadFine,loadL,cellsAt,Trk.putNew,Trk.up,Trk.touch,Trk.gives,Trk.calm,Trk.hit,opdsOf,Trk.fresh,LEnv.keep,LEnv.ofFrom,List.map_cons,List.map_nil,nbeq,nble,nblt,ofAV,ofAVs,lenL,bin_add,bin_sub,bin_mul,bin_eql,bin_neq,bin_lss,bin_leq,bin_gtr,bin_geq,natL_nat,natL_zero,natL_one,natL_two,Nat.zero_mul,List.any_cons,List.any_nil,Bool.or_false,Bool.false_or,Bool.true_or,Bool.or_true,Bool.and_true,Bool.true_and,Bool.and_false,Bool.false_and,Bool.not_true,Bool.not_false,Nat.reduceBEq,Nat.reduceEqDiff,decide_true,decide_false,cond_true,cond_false,List.filter_nil,List.filter_cons,Nat.reduceAdd,Nat.reduceLeDiff,reduceCtorEq,List.length_nil,List.length_cons,Nat.mul_one,if_true,if_false,Bool.false_eq_true,eq_self,and_true,true_and,retL,resultsL,resAllL,resOfL,List.append_nil,List.nil_append,List.cons_append,true_or,or_true,false_or,or_false,false_and,and_false,not_true_eq_false,not_false_eq_true,ne_eq,unL,trim_nil,views_pures,LV.pures,LV.pure,freeze,Nat.reduceDiv,Int.reduceEq,Int.reduceLT,Int.reduceLE,Int.natCast_zero,LV.cells,allocL,List.getElem?_cons_zero,List.getElem?_cons_succ,storeL,spliceL,List.take_zero,List.take_succ_cons,List.drop_zero,List.drop_succ_cons,List.drop_nil,List.take_nil,Nat.le_refl,Nat.reduceMul,List.set_cons_zero,List.set_cons_succ,LV.scalar,List.all_cons,List.all_nil,Nat.lt_add_one,Nat.zero_lt_one,Nat.reduceLT,Nat.lt_irrefl,fillL,List.length_append,foldIntL,kind_beq,pures_int,solids_int,plains_int,unders_int,scalars_int,ho,hpl,h1]
theorem gaps_loop (l : List Nat) (hl : l.length < 1000000) (h : ∀ s ∈ l,∃ k,(1 ≤ k ∧ k ≤ 7) ∧ s = 2 ^ k - 1) (nl ex : Bool) (sz : Nat) (m : LMem) (t : Nat) : ∀ k,k + t = l.length →
    exF LP style_Gaps.L0 [(7,.int .i64 0),(8,.int .i64 0),(17,UV nl ex sz l),(18,.int .i64 (l.length : Int)),(19,.int .i64 (k : Int))] m = some (.exit 0,[(7,.int .i64 0),(8,.int .i64 0)],m) := by
  induction t with
  | zero =>
    intro k hk
    obtain rfl : k = l.length := by omega
    rw [style_Gaps.L0_eq]
    simp only [style_Gaps.B0,beqT,beqF,exF_seq,exF_region,exF_block,exF_cond,exF_ret,exF_exit,exF_skip,runL,wantL,stepL,evL,evC,LEnv.at,putL,loadFine,loadL,cellsAt,Trk.putNew,Trk.up,Trk.touch,Trk.gives,Trk.calm,Trk.hit,opdsOf,Trk.fresh,LEnv.keep,LEnv.ofFrom,List.map_cons,List.map_nil,nbeq,nble,nblt,ofAV,ofAVs,lenL,bin_add,bin_sub,bin_mul,bin_eql,bin_neq,bin_lss,bin_leq,bin_gtr,bin_geq,natL_nat,natL_zero,natL_one,natL_two,Nat.zero_mul,List.any_cons,List.any_nil,Bool.or_false,Bool.false_or,Bool.true_or,Bool.or_true,Bool.and_true,Bool.true_and,Bool.and_false,Bool.false_and,Bool.not_true,Bool.not_false,Nat.reduceBEq,Nat.reduceEqDiff,decide_true,decide_false,cond_true,cond_false,List.filter_nil,List.filter_cons,Nat.reduceAdd,Nat.reduceLeDiff,reduceCtorEq,List.length_nil,List.length_cons,Nat.mul_one,if_true,if_false,Bool.false_eq_true,eq_self,and_true,true_and,retL,resultsL,resAllL,resOfL,List.append_nil,List.nil_append,List.cons_append,true_or,or_true,false_or,or_false,false_and,and_false,not_true_eq_false,not_false_eq_true,ne_eq,unL,trim_nil,views_pures,LV.pures,LV.pure,freeze,Nat.reduceDiv,Int.reduceEq,Int.reduceLT,Int.reduceLE,Int.natCast_zero,LV.cells,allocL,List.getElem?_cons_zero,List.getElem?_cons_succ,storeL,spliceL,List.take_zero,List.take_succ_cons,List.drop_zero,List.drop_succ_cons,List.drop_nil,List.take_nil,Nat.le_refl,Nat.reduceMul,List.set_cons_zero,List.set_cons_succ,LV.scalar,List.all_cons,List.all_nil,Nat.lt_add_one,Nat.zero_lt_one,Nat.reduceLT,Nat.lt_irrefl,fillL,List.length_append,foldIntL,kind_beq,pures_int,solids_int,plains_int,unders_int,scalars_int,Int.lt_irrefl]
  | succ t ih =>
    intro k hk
    have h2 : k < l.length := by omega
    have ih := ih (k + 1) (by omega)
    obtain ⟨q,hq,e⟩ := h _ (List.getElem_mem h2)
    have hat := u8_at l k h2
    rw [e] at hat
    have hg := fun m => gaps_c hq m
    have wk := wrap_succ (show k + 1 < 9223372036854775808 by omega)
    rw [style_Gaps.L0_eq]
    simp only [style_Gaps.B0,beqT,beqF,exF_seq,exF_region,exF_block,exF_cond,exF_ret,exF_exit,exF_skip,runL,wantL,stepL,evL,evC,LEnv.at,putL,loadFine,loadL,cellsAt,Trk.putNew,Trk.up,Trk.touch,Trk.gives,Trk.calm,Trk.hit,opdsOf,Trk.fresh,LEnv.keep,LEnv.ofFrom,List.map_cons,List.map_nil,nbeq,nble,nblt,ofAV,ofAVs,lenL,bin_add,bin_sub,bin_mul,bin_eql,bin_neq,bin_lss,bin_leq,bin_gtr,bin_geq,natL_nat,natL_zero,natL_one,natL_two,Nat.zero_mul,List.any_cons,List.any_nil,Bool.or_false,Bool.false_or,Bool.true_or,Bool.or_true,Bool.and_true,Bool.true_and,Bool.and_false,Bool.false_and,Bool.not_true,Bool.not_false,Nat.reduceBEq,Nat.reduceEqDiff,decide_true,decide_false,cond_true,cond_false,List.filter_nil,List.filter_cons,Nat.reduceAdd,Nat.reduceLeDiff,reduceCtorEq,List.length_nil,List.length_cons,Nat.mul_one,if_true,if_false,Bool.false_eq_true,eq_self,and_true,true_and,retL,resultsL,resAllL,resOfL,List.append_nil,List.nil_append,List.cons_append,true_or,or_true,false_or,or_false,false_and,and_false,not_true_eq_false,not_false_eq_true,ne_eq,unL,trim_nil,views_pures,LV.pures,LV.pure,freeze,Nat.reduceDiv,Int.reduceEq,Int.reduceLT,Int.reduceLE,Int.natCast_zero,LV.cells,allocL,List.getElem?_cons_zero,List.getElem?_cons_succ,storeL,spliceL,List.take_zero,List.take_succ_cons,List.drop_zero,List.drop_succ_cons,List.drop_nil,List.take_nil,Nat.le_refl,Nat.reduceMul,List.set_cons_zero,List.set_cons_succ,LV.scalar,List.all_cons,List.all_nil,Nat.lt_add_one,Nat.zero_lt_one,Nat.reduceLT,Nat.lt_irrefl,fillL,List.length_append,foldIntL,kind_beq,pures_int,solids_int,plains_int,unders_int,scalars_int,show (k : Int) < (l.length : Int) by omega,h2,hat,hg,show IntKind.i64.wrap (0 + 0) = 0 by rfl,wk,ih]
theorem Whole_c {n : Nat} {o : List Nat} (O : Ord n o) (R : List (List Nat)) (F : Fms n R) (h : ∀ l ∈ R,∃ k,(1 ≤ k ∧ k ≤ 7) ∧ im o n (bitsL l) = 2 ^ k - 1) (fl fe : Bool) (fz : Nat) (nl ex : Bool) (sz : Nat) (m : LMem) :
    clF LP n_style_Whole [.agg [.int .i64 (n : Int),RF fl fe fz R],IL nl ex sz (ci o)] m = some (.P,.tup [.bool true,.int .i64 0],m) := by
  have hs := fun m => shown_c O R F fl fe fz nl ex sz m
  have hg := fun a b c m => gaps_loop (ims o n (sets R)) (by have := F.few; simp [sets]; omega) (fun s hs => by
    obtain ⟨G,hG,rfl⟩ := List.mem_map.1 hs
    obtain ⟨l,hl,rfl⟩ := List.mem_map.1 hG
    exact h l hl) a b c m (ims o n (sets R)).length 0 (by omega)
  simp only [Int.natCast_zero] at hg
  have hG : ∀ m,clF LP n_style_Gaps [.agg [.int .i64 (n : Int),RF fl fe fz R],IL nl ex sz (ci o)] m = some (.P,.tup [.int .i64 0,.int .i64 0],m) := fun m => by
    refine call_P lp_style_Gaps rfl (by simp only [LV.pures,LV.pure,pures_rows,pures_int,Bool.and_self]) (m1 := [⟨[.int .i64 (n : Int),RF fl fe fz R],true⟩]) ?_ rfl m
    generalize ims o n (sets R) = L at *
    simp only [style_Gaps,style_Gaps.B,beqT,beqF,exF_seq,exF_region,exF_block,exF_cond,exF_ret,exF_exit,exF_skip,runL,wantL,stepL,evL,evC,LEnv.at,putL,loadFine,loadL,cellsAt,Trk.putNew,Trk.up,Trk.touch,Trk.gives,Trk.calm,Trk.hit,opdsOf,Trk.fresh,LEnv.keep,LEnv.ofFrom,List.map_cons,List.map_nil,nbeq,nble,nblt,ofAV,ofAVs,lenL,bin_add,bin_sub,bin_mul,bin_eql,bin_neq,bin_lss,bin_leq,bin_gtr,bin_geq,natL_nat,natL_zero,natL_one,natL_two,Nat.zero_mul,List.any_cons,List.any_nil,Bool.or_false,Bool.false_or,Bool.true_or,Bool.or_true,Bool.and_true,Bool.true_and,Bool.and_false,Bool.false_and,Bool.not_true,Bool.not_false,Nat.reduceBEq,Nat.reduceEqDiff,decide_true,decide_false,cond_true,cond_false,List.filter_nil,List.filter_cons,Nat.reduceAdd,Nat.reduceLeDiff,reduceCtorEq,List.length_nil,List.length_cons,Nat.mul_one,if_true,if_false,Bool.false_eq_true,eq_self,and_true,true_and,retL,resultsL,resAllL,resOfL,List.append_nil,List.nil_append,List.cons_append,true_or,or_true,false_or,or_false,false_and,and_false,not_true_eq_false,not_false_eq_true,ne_eq,unL,trim_nil,views_pures,LV.pures,LV.pure,freeze,Nat.reduceDiv,Int.reduceEq,Int.reduceLT,Int.reduceLE,Int.natCast_zero,LV.cells,allocL,List.getElem?_cons_zero,List.getElem?_cons_succ,storeL,spliceL,List.take_zero,List.take_succ_cons,List.drop_zero,List.drop_succ_cons,List.drop_nil,List.take_nil,Nat.le_refl,Nat.reduceMul,List.set_cons_zero,List.set_cons_succ,LV.scalar,List.all_cons,List.all_nil,Nat.lt_add_one,Nat.zero_lt_one,Nat.reduceLT,Nat.lt_irrefl,fillL,List.length_append,foldIntL,kind_beq,pures_int,solids_int,plains_int,unders_int,scalars_int,hs,hg]
  refine call_P lp_style_Whole rfl (by simp only [LV.pures,LV.pure,pures_rows,pures_int,Bool.and_self]) (m1 := [⟨[.int .i64 (n : Int),RF fl fe fz R],true⟩]) ?_ rfl m
  simp only [style_Whole,style_Whole.B,beqT,beqF,exF_seq,exF_region,exF_block,exF_cond,exF_ret,exF_exit,exF_skip,runL,wantL,stepL,evL,evC,LEnv.at,putL,loadFine,loadL,cellsAt,Trk.putNew,Trk.up,Trk.touch,Trk.gives,Trk.calm,Trk.hit,opdsOf,Trk.fresh,LEnv.keep,LEnv.ofFrom,List.map_cons,List.map_nil,nbeq,nble,nblt,ofAV,ofAVs,lenL,bin_add,bin_sub,bin_mul,bin_eql,bin_neq,bin_lss,bin_leq,bin_gtr,bin_geq,natL_nat,natL_zero,natL_one,natL_two,Nat.zero_mul,List.any_cons,List.any_nil,Bool.or_false,Bool.false_or,Bool.true_or,Bool.or_true,Bool.and_true,Bool.true_and,Bool.and_false,Bool.false_and,Bool.not_true,Bool.not_false,Nat.reduceBEq,Nat.reduceEqDiff,decide_true,decide_false,cond_true,cond_false,List.filter_nil,List.filter_cons,Nat.reduceAdd,Nat.reduceLeDiff,reduceCtorEq,List.length_nil,List.length_cons,Nat.mul_one,if_true,if_false,Bool.false_eq_true,eq_self,and_true,true_and,retL,resultsL,resAllL,resOfL,List.append_nil,List.nil_append,List.cons_append,true_or,or_true,false_or,or_false,false_and,and_false,not_true_eq_false,not_false_eq_true,ne_eq,unL,trim_nil,views_pures,LV.pures,LV.pure,freeze,Nat.reduceDiv,Int.reduceEq,Int.reduceLT,Int.reduceLE,Int.natCast_zero,LV.cells,allocL,List.getElem?_cons_zero,List.getElem?_cons_succ,storeL,spliceL,List.take_zero,List.take_succ_cons,List.drop_zero,List.drop_succ_cons,List.drop_nil,List.take_nil,Nat.le_refl,Nat.reduceMul,List.set_cons_zero,List.set_cons_succ,LV.scalar,List.all_cons,List.all_nil,Nat.lt_add_one,Nat.zero_lt_one,Nat.reduceLT,Nat.lt_irrefl,fillL,List.length_append,foldIntL,kind_beq,pures_int,solids_int,plains_int,unders_int,scalars_int,hG]
end Go.Am.Top
