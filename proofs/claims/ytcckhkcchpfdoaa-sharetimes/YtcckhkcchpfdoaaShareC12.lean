import Derived.Test.YtcckhkcchpfdoaaShareWorks
import Derived.Test.YtcckhkcchpfdoaaShareC33
set_option linter.unusedVariables false
set_option linter.unusedSimpArgs false
set_option maxRecDepth 10000
namespace Go.Am.Share
theorem same_loop (nl ex nl' ex' : Bool) (sz sz' : Nat) (l : List Int) (hs : l.length < 1000000) (n : Nat) : ∀ k,k + n = l.length →
    exF LP law07_same.L0 [(0,IL nl ex sz l),(1,IL nl' ex' sz' l),(5,.int .i64 (k : Int))] [] = some (.exit 0,[],[]) := by
  induction n with
  | zero =>
    intro k hk
    rw [law07_same.L0_eq]
    simp only [law07_same.B0,exF_seq,exF_region,exF_cond,exF_exit,runL,wantL,stepL,evL,LEnv.at,putL,loadFine,LEnv.keep,List.map_cons,List.map_nil,nbeq,lenL,bin_lss,Nat.reduceEqDiff,decide_true,decide_false,cond_true,cond_false,reduceCtorEq,eq_self,show ¬ ((k : Int) < (l.length : Int)) by omega]
  | succ n ih =>
    intro k hk
    have h2 : k < l.length := by omega
    rw [law07_same.L0_eq]
    simp only [law07_same.B0,exF_seq,exF_region,exF_block,exF_cond,exF_skip,runL,wantL,stepL,evL,evC,LEnv.at,putL,loadFine,loadL,cellsAt,Trk.putNew,Trk.up,Trk.touch,Trk.gives,Trk.calm,opdsOf,Trk.fresh,LEnv.keep,List.map_cons,List.map_nil,nbeq,nble,nblt,lenL,bin_add,bin_neq,bin_lss,natL_nat,List.any_cons,List.any_nil,Bool.or_false,Bool.or_true,Bool.and_true,Bool.false_and,Bool.not_true,Bool.not_false,Nat.reduceEqDiff,decide_true,decide_false,cond_true,cond_false,List.filter_nil,Nat.reduceAdd,reduceCtorEq,List.length_nil,Nat.mul_one,eq_self,not_true_eq_false,ne_eq,Nat.le_refl,show ((k : Int) < (l.length : Int)) by omega,h2,int_at _ _ _ h2,wrap_succ (show k + 1 < 9223372036854775808 by omega),ih (k + 1) (by omega)]
theorem same_refl (nl ex nl' ex' : Bool) (sz sz' : Nat) (l : List Int) (hs : l.length < 1000000) (m : LMem) : clF LP n_law07_same [IL nl ex sz l,IL nl' ex' sz' l] m = some (.P,.bool true,m) := by
  refine call_P lp_law07_same rfl (by simp [LV.pures,LV.pure]) (m1 := []) ?_ rfl m
  have h := same_loop nl ex nl' ex' sz sz' l hs l.length 0 (by omega)
  simp only [Int.natCast_zero] at h
  simp only [law07_same,law07_same.B,exF_seq,exF_region,exF_block,exF_cond,exF_ret,exF_skip,runL,wantL,stepL,evL,evC,LEnv.at,putL,loadFine,LEnv.keep,LEnv.ofFrom,List.map_cons,List.map_nil,nbeq,lenL,bin_neq,Nat.reduceEqDiff,decide_true,decide_false,cond_true,cond_false,Nat.reduceAdd,reduceCtorEq,eq_self,retL,resultsL,resAllL,resOfL,not_true_eq_false,ne_eq,h]
theorem pcs_at : ∀ (l : List (Nat × Nat)) (k : Nat) (h : k < l.length),((pcs l).drop (k * 2)).take 2 = [.int .i64 (l[k].1 : Int),.int .i64 (l[k].2 : Int)]
  | [],k,h => by simp at h
  | p :: r,0,h => by simp [pcs_cons]
  | p :: r,k + 1,h => by
    have := pcs_at r k (by simpa using h)
    rw [pcs_cons,show (k + 1) * 2 = k * 2 + 1 + 1 by omega]
    simpa using this
theorem pairs_loop (nl ex nl' ex' : Bool) (sz sz' : Nat) (l : List (Nat × Nat)) (hs : l.length < 1000000) (n : Nat) : ∀ k,k + n = l.length →
    exF LP law07_pairs.L0 [(0,.lst nl ex sz l.length (pcs l)),(1,.lst nl' ex' sz' l.length (pcs l)),(5,.int .i64 (k : Int))] [] = some (.exit 0,[],[]) := by
  induction n with
  | zero =>
    intro k hk
    rw [law07_pairs.L0_eq]
    simp only [law07_pairs.B0,exF_seq,exF_region,exF_cond,exF_exit,runL,wantL,stepL,evL,LEnv.at,putL,loadFine,LEnv.keep,List.map_cons,List.map_nil,nbeq,lenL,bin_lss,Nat.reduceEqDiff,decide_true,decide_false,cond_true,cond_false,reduceCtorEq,eq_self,show ¬ ((k : Int) < (l.length : Int)) by omega]
  | succ n ih =>
    intro k hk
    have h2 : k < l.length := by omega
    have h3 : k * 2 + 2 ≤ (pcs l).length := by rw [pcs_length]; omega
    rw [law07_pairs.L0_eq]
    simp only [law07_pairs.B0,exF_seq,exF_region,exF_block,exF_cond,exF_skip,runL,wantL,stepL,evL,evC,LEnv.at,putL,loadFine,loadL,cellsAt,Trk.putNew,Trk.up,Trk.touch,Trk.gives,Trk.calm,opdsOf,Trk.fresh,LEnv.keep,List.map_cons,List.map_nil,nbeq,nble,nblt,lenL,bin_add,bin_lss,natL_nat,List.any_cons,List.any_nil,Bool.or_false,Bool.or_true,Bool.false_and,Bool.not_true,Bool.not_false,Nat.reduceEqDiff,decide_true,decide_false,cond_true,cond_false,List.filter_nil,Nat.reduceAdd,reduceCtorEq,List.length_nil,List.length_cons,eq_self,Nat.le_refl,show ((k : Int) < (l.length : Int)) by omega,h2,h3,pcs_at _ _ h2,eqIntsL,beq_self_eq_true,Bool.and_self,Bool.not_true,Bool.xor_true,wrap_succ (show k + 1 < 9223372036854775808 by omega),ih (k + 1) (by omega)]
theorem pairs_refl (nl ex nl' ex' : Bool) (sz sz' : Nat) (l : List (Nat × Nat)) (hs : l.length < 1000000) (m : LMem) : clF LP n_law07_pairs [.lst nl ex sz l.length (pcs l),.lst nl' ex' sz' l.length (pcs l)] m = some (.P,.bool true,m) := by
  refine call_P lp_law07_pairs rfl (by simp [LV.pures,LV.pure]) (m1 := []) ?_ rfl m
  have h := pairs_loop nl ex nl' ex' sz sz' l hs l.length 0 (by omega)
  simp only [Int.natCast_zero] at h
  simp only [law07_pairs,law07_pairs.B,exF_seq,exF_region,exF_block,exF_cond,exF_ret,exF_skip,runL,wantL,stepL,evL,evC,LEnv.at,putL,loadFine,LEnv.keep,LEnv.ofFrom,List.map_cons,List.map_nil,nbeq,lenL,bin_neq,Nat.reduceEqDiff,decide_true,decide_false,cond_true,cond_false,Nat.reduceAdd,reduceCtorEq,eq_self,retL,resultsL,resAllL,resOfL,not_true_eq_false,ne_eq,h]
end Go.Am.Share
set_option linter.unusedVariables false
set_option linter.unusedSimpArgs false
set_option maxRecDepth 10000
namespace Go.Am.Share
theorem mostF_length (V : List (List Int)) (t : Nat) : ∀ (P : List (List Int)) (b : List Int),(∀ q ∈ P,q.length = t) → b.length = t → (mostF V b P).length = t
  | [],b,_,h => h
  | x :: xs,b,hp,h => by
    rw [mostF]
    split
    · exact mostF_length V t xs x (fun q hq => hp q (by simp [hq])) (hp x (by simp))
    · exact mostF_length V t xs b (fun q hq => hp q (by simp [hq])) h
theorem mostP_c (nl ex : Bool) (sz : Nat) (rs : List Row) (hl : rs.length < 1000000) (hr : ∀ r ∈ rs,r.l.length < 1000000) : ∃ a b c,∀ m,clF LP n_share_Most [VL nl ex sz rs] m = some (.P,.tup [IL a b c (mostV (vals rs)),.int .i64 (chkV (vals rs))],m) := by
  have hc := fun m => check_c nl ex sz rs hl hr m
  unfold mostV
  by_cases h1 : chkV (vals rs) = 0
  · have D := vok_of h1
    rw [if_pos h1,vals_length]
    have hm := allD_mem rs.length ((vals rs).getD 0 []).length
    obtain ⟨m',b,r,n,hA,e1,e2,e3⟩ := each_most nl ex sz D
    rw [hA] at hm ⊢
    have hq := mostF_length (vals rs) ((vals rs).getD 0 []).length r b (fun q hq => (hm q (by simp [hq])).1) (hm b (by simp)).1
    show ∃ a b' c,∀ m,clF LP n_share_Most [VL nl ex sz rs] m = some (.P,.tup [IL a b' c (mostF (vals rs) b r),.int .i64 (chkV (vals rs))],m)
    rw [h1]
    generalize mostF (vals rs) b r = q at *
    generalize ((vals rs).getD 0 []).length = L at *
    by_cases h : L = 0
    · subst h
      obtain rfl : q = [] := List.length_eq_zero_iff.1 hq
      simp only [CV,if_true] at e2
      refine ⟨false,true,0,fun m => call_P lp_share_Most rfl (by simp [LV.pures,LV.pure]) (m1 := m') ?_ (by simp [LV.pures,LV.pure]) m⟩
      simp only [share_Most,share_Most.B,exF_seq,exF_region,exF_cond,exF_ret,exF_skip,runL,wantL,stepL,evL,evC,LEnv.at,putL,loadFine,loadL,cellsAt,Trk.calm,Trk.hit,LEnv.keep,LEnv.ofFrom,List.map_cons,List.map_nil,nbeq,nble,ofAV,ofAVs,bin_neq,List.any_nil,Bool.or_false,Bool.false_or,Bool.true_or,Bool.and_true,Nat.reduceEqDiff,decide_true,decide_false,cond_true,cond_false,Nat.reduceAdd,Nat.reduceLeDiff,reduceCtorEq,List.length_nil,List.length_cons,eq_self,retL,resultsL,resAllL,resOfL,List.append_nil,List.nil_append,List.cons_append,not_true_eq_false,ne_eq,LV.cells,allocL,List.getElem?_cons_zero,List.getElem?_cons_succ,storeL,spliceL,List.take_zero,List.take_succ_cons,List.drop_zero,List.drop_succ_cons,List.drop_nil,List.take_nil,Nat.le_refl,List.set_cons_zero,List.set_cons_succ,LV.scalar,List.all_cons,List.all_nil,hc,h1,e1,e2]
      rfl
    · have f3 := e3 h
      simp only [CV,if_neg h] at e2
      have hv := view_slq m' n L 1 q true 0 f3 hq
      refine ⟨false,Nat.beq 1 0,1,fun m => call_Pv lp_share_Most rfl (by simp [LV.pures,LV.pure]) ?_ hv m⟩
      simp only [share_Most,share_Most.B,exF_seq,exF_region,exF_cond,exF_ret,exF_skip,runL,wantL,stepL,evL,evC,LEnv.at,putL,loadFine,loadL,cellsAt,Trk.calm,Trk.hit,LEnv.keep,LEnv.ofFrom,List.map_cons,List.map_nil,nbeq,nble,ofAV,ofAVs,bin_neq,List.any_nil,Bool.or_false,Bool.false_or,Bool.true_or,Bool.and_true,Nat.reduceEqDiff,decide_true,decide_false,cond_true,cond_false,Nat.reduceAdd,Nat.reduceLeDiff,reduceCtorEq,List.length_nil,List.length_cons,eq_self,retL,resultsL,resAllL,resOfL,List.append_nil,List.nil_append,List.cons_append,not_true_eq_false,ne_eq,LV.cells,allocL,List.getElem?_cons_zero,List.getElem?_cons_succ,storeL,spliceL,List.take_zero,List.take_succ_cons,List.drop_zero,List.drop_succ_cons,List.drop_nil,List.take_nil,Nat.le_refl,List.set_cons_zero,List.set_cons_succ,LV.scalar,List.all_cons,List.all_nil,hc,h1,e1,e2]
  · rw [if_neg h1]
    refine ⟨true,true,0,fun m => call_P lp_share_Most rfl (by simp [LV.pures,LV.pure]) (m1 := []) ?_ (by simp [LV.pures,LV.pure]) m⟩
    simp only [share_Most,share_Most.B,exF_seq,exF_region,exF_cond,exF_ret,runL,wantL,stepL,evL,evC,LEnv.at,putL,loadFine,LEnv.keep,LEnv.ofFrom,List.map_cons,List.map_nil,nbeq,ofAVs,bin_neq,Nat.reduceEqDiff,decide_true,decide_false,cond_true,cond_false,reduceCtorEq,eq_self,retL,resultsL,resAllL,resOfL,List.append_nil,List.nil_append,not_false_eq_true,ne_eq,hc,h1]
    rfl
end Go.Am.Share
