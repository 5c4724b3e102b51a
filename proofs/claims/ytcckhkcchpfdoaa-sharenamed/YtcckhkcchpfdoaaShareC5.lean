/-
  What functions of chapter 07 compute, 5: divisions are opened; envy by more than one thing.
-/
import Derived.Test.YtcckhkcchpfdoaaShareC1
import Derived.Test.YtcckhkcchpfdoaaLm11
set_option linter.unusedVariables false
set_option linter.unusedSimpArgs false
set_option maxRecDepth 10000
namespace Go.Am.Share
abbrev LNIL : LV := .lst true true 0 0 []
theorem vals0 (rs : List Row) (h : 0 < rs.length) : (vals rs).getD 0 [] = rs[0].l := by simp [vals,List.getD_eq_getElem?_getD,List.getElem?_eq_getElem h]
theorem views_f2 {m : LMem} {g i L : Nat} {cs : List LV} {b : Bool} {x : LV} (h : m[i]? = some ⟨cs,b⟩) (hL : cs.length = L) (hp : LV.pures cs = true) (hx : x.pure = true) : views m [.func g [] [.ptr i 0 L],x] = some ([.func g [] [.elt cs 0],x],[i]) := by
  show viewL 100 m _ = _
  rw [viewL.eq_def]
  simp only [show LV.pures [.func g [] [.ptr i 0 L],x] = false by simp [LV.pures,LV.pure],cond_false]
  rw [viewC.eq_def]
  simp only [G.view_fun1 90 m g i L cs b h hL hp]
  rw [viewC.eq_def]
  simp only [view_pure 95 m x hx]
  rw [viewC.eq_def]
  simp only [List.append_nil]
theorem view_div (m : LMem) (a v v' e : LV) (ids : List Nat) (h : ∀ k,view (k + 3) m v = some (v',ids)) (ha : a.pure = true) (hv : v.pure = false) (he : e.pure = true) : view 100 m (.tup [.agg [a,v],e]) = some (.tup [.agg [a,v'],e],ids) := by
  have hp1 : LV.pures [a,v] = false := by simp [LV.pures,hv]
  have h1 : viewL 96 m [a,v] = some ([a,v'],ids) := by
    rw [viewL.eq_def]
    simp only [hp1,cond_false]
    rw [viewC.eq_def]
    simp only [view_pure 92 m a ha]
    rw [viewC.eq_def]
    simp only [h 90]
    rw [viewC.eq_def]
    simp only [List.nil_append,List.append_nil]
  have h2 : view 97 m (.agg [a,v]) = some (.agg [a,v'],ids) := by
    rw [view.eq_def]
    simp only [h1]
  have hp2 : LV.pures [.agg [a,v],e] = false := by simp [LV.pures,LV.pure,hv]
  rw [view.eq_def]
  have h3 : viewL 99 m [.agg [a,v],e] = some ([.agg [a,v'],e],ids) := by
    rw [viewL.eq_def]
    simp only [hp2,cond_false]
    rw [viewC.eq_def]
    simp only [h2]
    rw [viewC.eq_def]
    simp only [view_pure 94 m e he]
    rw [viewC.eq_def]
    simp only [List.append_nil]
  simp only [h3]
theorem opened_c (nl ex nl' ex' : Bool) (sz sz' : Nat) (rs : List Row) (o : List Int) (hl : rs.length < 1000000) (hr : ∀ r ∈ rs,r.l.length < 1000000) (ho : o.length < 1000000) (hsz : o = [] ∨ sz' = 1) (hnl : nl' = true → o = []) (m : LMem) :
    (divE (vals rs) o ≠ 0 → clF LP n_share_opened [VL nl ex sz rs,IL nl' ex' sz' o] m = some (.P,.tup [.agg [LNIL,LNIL],.int .i64 (divE (vals rs) o)],m)) ∧
    (divE (vals rs) o = 0 → ∃ nl2 ex2 sz2,clF LP n_share_opened [VL nl ex sz rs,IL nl' ex' sz' o] m = some (.P,.tup [.agg [VL nl ex sz rs,IL nl2 ex2 sz2 o],.int .i64 0],m) ∧ (o = [] ∨ sz2 = 1) ∧ (nl2 = true → o = [])) := by
  have hc := fun m => check_c nl ex sz rs hl hr m
  unfold divE
  rw [vals_length]
  by_cases h1 : chkV (vals rs) = 0
  · obtain ⟨k1,k2,k3,k4⟩ := chkV_ok h1
    rw [vals_length] at k1
    rw [vals0 rs k1]
    rw [if_neg (by simpa using h1)]
    have hnew : ¬ ((chkV (vals rs) : Int) ≠ 0) := by simpa using h1
    by_cases h2 : o.length = rs[0].l.length
    · rw [if_neg (by simpa using h2)]
      have h2' : ((o.length : Int) = rs[0].l.length) := by omega
      have hs := some_c n_share_opened_1 [] [.elt [VL nl ex sz rs] 0] ⟨rfl,by simp [LV.pures,LV.pure]⟩ (fun x => !inB 0 ((rs.length : Int) - 1) x) nl' ex' sz' o ho (fun x m => opened1_c nl ex sz rs ⟨k1,hl⟩ x m) []
      cases ha : o.any fun x => !inB 0 ((rs.length : Int) - 1) x
      · rw [ha] at hs
        have hv := call_view lp_share_some_int rfl (args := [.func n_share_opened_1 [] [.ptr 0 0 1],IL nl' ex' sz' o]) (m := [⟨[VL nl ex sz rs],true⟩,⟨[LNIL,LNIL],true⟩]) (ids := [0]) (views_f2 (b := true) rfl rfl (by simp [LV.pures,LV.pure]) rfl) (by simp [LV.pures,LV.pure]) hs rfl
        simp only [Bool.false_eq_true,if_false,ne_eq,not_true_eq_false,false_implies,true_and,forall_const]
        have hcl := clone_c nl' ex' sz' o ho [⟨[VL nl ex sz rs],true⟩,⟨[LNIL,LNIL],true⟩] hsz hnl
        by_cases hn : o = []
        · subst hn
          refine ⟨nl',true,0,?_,.inl rfl,fun _ => rfl⟩
          refine call_Pv lp_share_opened rfl (by simp [LV.pures,LV.pure]) (v := .tup [.agg [VL nl ex sz rs,.lst nl' true 0 0 []],.int .i64 0]) (m1 := [⟨[VL nl ex sz rs],true⟩,⟨[VL nl ex sz rs,.lst nl' true 0 0 []],true⟩]) ?_ (view_pure 98 _ _ (by simp [LV.pures,LV.pure])) m
          simp only [if_true] at hcl
          have h3' : (((0 : Nat) : Int) = rs[0].l.length) := h2'
          simp only [share_opened,share_opened.B,exF_seq,exF_region,exF_block,exF_cond,exF_ret,exF_skip,runL,wantL,stepL,evL,evC,LEnv.at,putL,loadFine,loadL,cellsAt,Trk.putNew,Trk.up,Trk.touch,Trk.gives,Trk.calm,Trk.hit,opdsOf,Trk.fresh,LEnv.keep,LEnv.ofFrom,List.map_cons,List.map_nil,nbeq,nble,nblt,ofAV,ofAVs,lenL,bin_neq,natL_zero,List.any_cons,List.any_nil,Bool.or_false,Bool.or_true,Bool.and_true,Bool.false_and,Bool.not_true,Bool.not_false,Nat.reduceEqDiff,decide_true,decide_false,cond_true,cond_false,List.filter_nil,Nat.reduceAdd,Nat.reduceLeDiff,reduceCtorEq,List.length_nil,List.length_cons,Nat.mul_one,eq_self,retL,resultsL,resAllL,resOfL,List.append_nil,List.nil_append,List.cons_append,not_true_eq_false,ne_eq,LV.cells,allocL,List.getElem?_cons_zero,List.getElem?_cons_succ,storeL,spliceL,List.take_zero,List.take_succ_cons,List.drop_zero,List.drop_succ_cons,List.drop_nil,List.take_nil,Nat.le_refl,List.set_cons_zero,List.set_cons_succ,LV.scalar,List.all_cons,List.all_nil,fillL,hc,h1,h3',k1,row_at _ _ k1,hv,hcl]
        · refine ⟨false,false,1,?_,.inr rfl,fun h => by cases h⟩
          have hn0 : ¬ o.length = 0 := by simpa using hn
          refine call_Pv lp_share_opened rfl (by simp [LV.pures,LV.pure]) (v := .tup [.agg [VL nl ex sz rs,.sl 2 0 o.length o.length 1 1 o.length],.int .i64 0]) (ids := [2])
            (m1 := [⟨[VL nl ex sz rs],true⟩,⟨[VL nl ex sz rs,.sl 2 0 o.length o.length 1 1 o.length],true⟩,⟨o.map (LV.int .i64),true⟩]) ?_ ?_ m
          · rw [if_neg hn] at hcl
            simp only [share_opened,share_opened.B,exF_seq,exF_region,exF_block,exF_cond,exF_ret,exF_skip,runL,wantL,stepL,evL,evC,LEnv.at,putL,loadFine,loadL,cellsAt,Trk.putNew,Trk.up,Trk.touch,Trk.gives,Trk.calm,Trk.hit,opdsOf,Trk.fresh,LEnv.keep,LEnv.ofFrom,List.map_cons,List.map_nil,nbeq,nble,nblt,ofAV,ofAVs,lenL,bin_neq,natL_zero,List.any_cons,List.any_nil,Bool.or_false,Bool.or_true,Bool.and_true,Bool.false_and,Bool.not_true,Bool.not_false,Nat.reduceEqDiff,decide_true,decide_false,cond_true,cond_false,List.filter_nil,Nat.reduceAdd,Nat.reduceLeDiff,reduceCtorEq,List.length_nil,List.length_cons,Nat.mul_one,eq_self,retL,resultsL,resAllL,resOfL,List.append_nil,List.nil_append,List.cons_append,not_true_eq_false,ne_eq,LV.cells,allocL,List.getElem?_cons_zero,List.getElem?_cons_succ,storeL,spliceL,List.take_zero,List.take_succ_cons,List.drop_zero,List.drop_succ_cons,List.drop_nil,List.take_nil,Nat.le_refl,List.set_cons_zero,List.set_cons_succ,LV.scalar,List.all_cons,List.all_nil,fillL,hc,h1,h2',k1,row_at _ _ k1,hv,hcl]
          · refine view_div _ _ _ _ _ _ (fun k => ?_) rfl rfl rfl
            have := G.view_sl k [⟨[VL nl ex sz rs],true⟩,⟨[VL nl ex sz rs,.sl 2 0 o.length o.length 1 1 o.length],true⟩,⟨o.map (LV.int .i64),true⟩] 2 0 o.length o.length 1 o true rfl rfl (by omega) o.length (Nat.le_refl _)
            rw [List.drop_zero,List.take_of_length_le (Nat.le_refl _)] at this
            exact this
      · rw [ha] at hs
        have hv := call_view lp_share_some_int rfl (args := [.func n_share_opened_1 [] [.ptr 0 0 1],IL nl' ex' sz' o]) (m := [⟨[VL nl ex sz rs],true⟩,⟨[LNIL,LNIL],true⟩]) (ids := [0]) (views_f2 (b := true) rfl rfl (by simp [LV.pures,LV.pure]) rfl) (by simp [LV.pures,LV.pure]) hs rfl
        refine ⟨fun _ => ?_,fun h => by simp at h⟩
        refine call_Pv lp_share_opened rfl (by simp [LV.pures,LV.pure]) (v := .tup [.agg [LNIL,LNIL],.int .i64 2]) (m1 := [⟨[VL nl ex sz rs],true⟩,⟨[LNIL,LNIL],true⟩]) ?_ (view_pure 98 _ _ (by simp [LV.pures,LV.pure])) m
        simp only [share_opened,share_opened.B,exF_seq,exF_region,exF_block,exF_cond,exF_ret,runL,wantL,stepL,evL,evC,LEnv.at,putL,loadFine,loadL,cellsAt,Trk.putNew,Trk.up,Trk.touch,Trk.gives,Trk.calm,Trk.hit,opdsOf,Trk.fresh,LEnv.keep,LEnv.ofFrom,List.map_cons,List.map_nil,nbeq,nble,nblt,ofAV,ofAVs,lenL,bin_neq,natL_zero,List.any_cons,List.any_nil,Bool.or_false,Bool.or_true,Bool.and_true,Bool.false_and,Bool.not_true,Bool.not_false,Nat.reduceEqDiff,decide_true,decide_false,cond_true,cond_false,List.filter_nil,Nat.reduceAdd,Nat.reduceLeDiff,reduceCtorEq,List.length_nil,List.length_cons,Nat.mul_one,eq_self,retL,resultsL,resAllL,resOfL,List.append_nil,List.nil_append,List.cons_append,not_true_eq_false,ne_eq,LV.cells,allocL,List.getElem?_cons_zero,List.getElem?_cons_succ,storeL,spliceL,List.take_zero,List.take_succ_cons,List.drop_zero,List.drop_succ_cons,List.drop_nil,List.take_nil,Nat.le_refl,List.set_cons_zero,List.set_cons_succ,LV.scalar,List.all_cons,List.all_nil,fillL,hc,h1,h2',k1,row_at _ _ k1,hv]
    · rw [if_pos (by simpa using h2)]
      have h2' : ¬ ((o.length : Int) = rs[0].l.length) := by omega
      refine ⟨fun _ => ?_,fun h => by simp at h⟩
      refine call_Pv lp_share_opened rfl (by simp [LV.pures,LV.pure]) (v := .tup [.agg [LNIL,LNIL],.int .i64 5]) (m1 := [⟨[VL nl ex sz rs],true⟩,⟨[LNIL,LNIL],true⟩]) ?_ (view_pure 98 _ _ (by simp [LV.pures,LV.pure])) m
      simp only [share_opened,share_opened.B,exF_seq,exF_region,exF_block,exF_cond,exF_ret,runL,wantL,stepL,evL,evC,LEnv.at,putL,loadFine,loadL,cellsAt,Trk.putNew,Trk.up,Trk.touch,Trk.gives,Trk.calm,Trk.hit,opdsOf,Trk.fresh,LEnv.keep,LEnv.ofFrom,List.map_cons,List.map_nil,nbeq,nble,nblt,ofAV,ofAVs,lenL,bin_neq,natL_zero,List.any_cons,List.any_nil,Bool.or_false,Bool.or_true,Bool.and_true,Bool.false_and,Bool.not_true,Bool.not_false,Nat.reduceEqDiff,decide_true,decide_false,cond_true,cond_false,List.filter_nil,Nat.reduceAdd,Nat.reduceLeDiff,reduceCtorEq,List.length_nil,List.length_cons,Nat.mul_one,eq_self,retL,resultsL,resAllL,resOfL,List.append_nil,List.nil_append,List.cons_append,not_true_eq_false,not_false_eq_true,ne_eq,LV.cells,allocL,List.getElem?_cons_zero,List.getElem?_cons_succ,storeL,spliceL,List.take_zero,List.take_succ_cons,List.drop_zero,List.drop_succ_cons,List.drop_nil,List.take_nil,Nat.le_refl,List.set_cons_zero,List.set_cons_succ,LV.scalar,List.all_cons,List.all_nil,fillL,hc,h1,h2',k1,row_at _ _ k1]
  · rw [if_pos (by simpa using h1)]
    refine ⟨fun _ => ?_,fun h => absurd h h1⟩
    refine call_Pv lp_share_opened rfl (by simp [LV.pures,LV.pure]) (v := .tup [.agg [LNIL,LNIL],.int .i64 (chkV (vals rs))]) (m1 := [⟨[VL nl ex sz rs],true⟩,⟨[LNIL,LNIL],true⟩]) ?_ (view_pure 98 _ _ (by simp [LV.pures,LV.pure])) m
    simp only [share_opened,share_opened.B,exF_seq,exF_region,exF_block,exF_cond,exF_ret,runL,wantL,stepL,evL,evC,LEnv.at,putL,loadFine,loadL,cellsAt,Trk.calm,Trk.hit,LEnv.keep,LEnv.ofFrom,List.map_cons,List.map_nil,nbeq,nble,ofAV,ofAVs,bin_neq,List.any_nil,Bool.or_false,Bool.or_true,Bool.and_true,Bool.false_and,Bool.not_true,Bool.not_false,Nat.reduceEqDiff,decide_true,decide_false,cond_true,cond_false,Nat.reduceAdd,Nat.reduceLeDiff,reduceCtorEq,List.length_nil,List.length_cons,eq_self,retL,resultsL,resAllL,resOfL,List.append_nil,List.nil_append,List.cons_append,not_false_eq_true,ne_eq,LV.cells,allocL,List.getElem?_cons_zero,List.getElem?_cons_succ,storeL,spliceL,List.take_zero,List.take_succ_cons,List.drop_zero,List.drop_succ_cons,List.drop_nil,List.take_nil,Nat.le_refl,List.set_cons_zero,List.set_cons_succ,LV.scalar,List.all_cons,List.all_nil,fillL,hc,h1]
end Go.Am.Share
