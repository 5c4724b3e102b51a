import Derived.Test.YtheppipmnfjdcaaDoorRdP15
import Derived.Test.YtheppipmnfjdcaaDoorRdC14
import Derived.Test.YtheppipmnfjdcaaDoorRdD1
import Derived.Carry
import Derived.LaidMore
import Derived.MakeChecks
set_option linter.unusedVariables false
set_option linter.unusedSimpArgs false
set_option maxRecDepth 10000
set_option maxHeartbeats 1000000
namespace Go.Am.Ring
open Go.Am.G
theorem chkW_asc (L : Nat) : ∀ (l : List Nat) (last : Int),l.Pairwise (· < ·) → (∀ x ∈ l,last < (x : Int) ∧ x < L) → -1 ≤ last → chkW (L : Int) last (ci l) = 0
  | [],last,_,_,_ => rfl
  | x :: r,last,h,hm,hl => by
    obtain ⟨h1,h2⟩ := List.pairwise_cons.1 h
    have hx := hm x (by simp)
    have ih := chkW_asc L r (x : Int) h2 (fun y hy => ⟨by have := h1 y hy; omega,(hm y (by simp [hy])).2⟩) (by omega)
    simp only [ci,List.map_cons] at ih ⊢
    rw [chkW,if_pos (by omega),if_neg (by omega)]
    exact ih
theorem turn_v {n : Nat} {P : List (Nat × Nat)} (G : Good n P) (a b : Bool) (z : Nat) (hv : FVok P a z) {S : Nat} (hS : S < 2 ^ P.length) (oa ob : Bool) (oz : Nat) : ∃ ta tb tz,(P = [] ∨ tz = 2) ∧ ∀ m,clF LP n_ring_Turn [.int .i64 (n : Int),FN a b z P,IL oa ob oz (ci (numL S))] m = some (.P,.tup [FN ta tb tz (twP P S),.int .i64 0],m) := by
  have h12 := G.le12
  have hc := fun m => check_c a b z (n : Int) (P.map castP) (by simp; omega) m
  rw [chkF_of G] at hc
  have hp : LV.pures [.int .i64 (n : Int),FN a b z P,IL oa ob oz (ci (numL S))] = true := by simp [LV.pures,LV.pure]
  by_cases hne : P = []
  · subst hne
    have hS0 : S = 0 := by simp at hS; exact hS
    subst hS0
    have hcl := fun m => clone20_c a b z m
    refine ⟨a,true,0,.inl rfl,fun m => ?_⟩
    have e0 : numL 0 = [] := numL_zero
    have e1 : twP [] 0 = [] := rfl
    rw [e0] at hp ⊢
    rw [e1]
    refine call_P lp_ring_Turn rfl hp (m1 := []) ?_ (by simp [LV.pure,LV.pures]) m
    have hL : exF LP ring_Turn.L0 [(1,.lst a b z 0 []),(9,.lst a true 0 0 []),(10,.int .i64 (-1)),(21,.lst oa ob oz 0 []),(22,.int .i64 0),(23,.int .i64 0)] [] = some (.exit 0,[(9,.lst a true 0 0 [])],[]) := by
      rw [ring_Turn.L0_eq]
      simp only [ring_Turn.B0,exF_seq,exF_region,exF_cond,exF_exit,runL,wantL,stepL,evL,LEnv.at,putL,loadFine,LEnv.keep,List.map_cons,List.map_nil,nbeq,bin_lss,Nat.reduceEqDiff,decide_true,decide_false,cond_true,cond_false,eq_self,Int.reduceLT]
    simp only [FN,FL,IL,List.length_nil,List.map_nil,show pcI [] = [] from rfl] at hc ⊢
    simp only [ring_Turn,ring_Turn.B,exF_seq,exF_region,exF_block,exF_cond,exF_ret,exF_skip,runL,wantL,stepL,evL,evC,LEnv.at,putL,loadFine,LEnv.keep,LEnv.ofFrom,List.map_cons,List.map_nil,nbeq,ofAVs,lenL,bin_neq,Nat.reduceEqDiff,decide_true,decide_false,cond_true,cond_false,Nat.reduceAdd,reduceCtorEq,eq_self,retL,resultsL,resAllL,resOfL,List.append_nil,List.nil_append,not_true_eq_false,ne_eq,Int.natCast_zero,hc,hcl,hL]
  · obtain ⟨rfl,rfl⟩ := hv.resolve_left hne
    have hne' : P.map castP ≠ [] := by simpa using hne
    have hnl := num_le S
    obtain ⟨M,hlp⟩ := turn_loop false b oa ob oz (P.map castP) (by simp; omega) (ci (numL S)) (by rw [ci_len]; omega) (ci (numL S)).length 0 (-1) (by omega) (by omega) (by simp)
    simp only [Int.natCast_zero,List.drop_zero,List.take_zero,twF_nil] at hlp
    have hcl := fun m => clone2_c b (P.map castP) (by simp; omega) hne' m
    have hck := chkW_asc P.length (numL S) (-1) (numL_asc S) (fun x hx => ⟨by omega,by
      rcases Nat.lt_or_ge x P.length with c | c
      · exact c
      · have := (numL_mem.1 hx).2
        rw [Nat.testBit_lt_two_pow (Nat.lt_of_lt_of_le hS (Nat.pow_le_pow_right (by omega) c))] at this
        cases this⟩) (by omega)
    rw [if_pos (by simpa using hck)] at hlp
    rw [← twP_cast h12 S] at hlp
    refine ⟨false,false,2,.inr rfl,fun m => ?_⟩
    have htl := twP_len P S
    have hlen := pcI_len ((twP P S).map castP)
    rw [List.length_map,htl] at hlen
    have hview : ∀ k,view (k + 3) [⟨pcI ((twP P S).map castP),true⟩] (.sl 0 0 P.length P.length 2 2 (P.length * 2)) = some (FN false false 2 (twP P S),[0]) := by
      intro k
      have := view_slc k [⟨pcI ((twP P S).map castP),true⟩] 0 0 P.length (P.length * 2) 2 P.length 2 (pcI ((twP P S).map castP)) true rfl (by rw [List.drop_zero,List.take_of_length_le (by omega)]; exact pcI_pures _) hlen (by omega) (Nat.le_refl _)
      rw [List.drop_zero,List.take_of_length_le (by omega)] at this
      rw [FN_eq,htl]
      exact this
    refine call_Pv lp_ring_Turn rfl hp (m1 := [⟨pcI ((twP P S).map castP),true⟩]) (v := .tup [.sl 0 0 P.length P.length 2 2 (P.length * 2),.int .i64 0]) (ids := [0]) ?_ (view_tup2 _ _ (.int .i64 0) _ [0] hview rfl (by simp [LV.pures,LV.pure])) m
    simp only [List.length_map] at hcl hlp
    generalize pcI ((twP P S).map castP) = TI at *
    simp only [FN,FL,IL,List.length_map] at hc hcl hlp ⊢
    generalize (ci (numL S)).map (LV.int .i64) = row at *
    generalize pcI (P.map castP) = PI at *
    simp only [ring_Turn,ring_Turn.B,exF_seq,exF_region,exF_block,exF_cond,exF_ret,exF_skip,runL,wantL,stepL,evL,evC,LEnv.at,putL,loadFine,LEnv.keep,LEnv.ofFrom,List.map_cons,List.map_nil,nbeq,ofAVs,lenL,bin_neq,Nat.reduceEqDiff,decide_true,decide_false,cond_true,cond_false,Nat.reduceAdd,reduceCtorEq,List.length_nil,eq_self,retL,resultsL,resAllL,resOfL,List.append_nil,List.nil_append,not_true_eq_false,ne_eq,hc,hcl,hlp]
theorem st_L {n : Nat} {P : List (Nat × Nat)} (G : Good n P) (a b : Bool) (z : Nat) (M : LMem) (c1 : M[1]? = some ⟨[FN a b z P],true⟩) (S : Nat) (hS : S < 4096) (oa ob : Bool) (oz : Nat) (hoz : numL S = [] ∨ (oa = false ∧ oz = 1)) (bv fb t37 t38 : LV) :
    exF LP (stQ 5) (stE n P bv fb [(10,.int .u64 (S : Int)),(11,IL oa ob oz (ci (numL S))),(12,.bool true),(37,t37),(38,t38)]) M = if (numL S).all (lstB P S) = true then exF LP (stQ 7) (stE n P bv fb [(10,.int .u64 (S : Int)),(11,IL oa ob oz (ci (numL S))),(37,t37),(38,t38),(94,.bool false)]) M else some (.exit 1,stE n P bv fb [(37,t37),(38,t38)],M) := by
  have hnl := num_le S
  have h0 := st_L0 G a b z M c1 S hS (numL S) (fun i hi => (numL_mem.1 hi).1) (by omega) oa ob oz (hoz.imp id And.right) bv fb t37 t38 (numL S).length 0 true (by omega)
  rw [Bool.true_and,List.drop_zero] at h0
  have e5 : exF LP (cFst (stQ 5)) (stE n P bv fb [(10,.int .u64 (S : Int)),(11,IL oa ob oz (ci (numL S))),(12,.bool true),(37,t37),(38,t38)]) M = some (.normal,stE n P bv fb [(10,.int .u64 (S : Int)),(11,IL oa ob oz (ci (numL S))),(12,.bool ((numL S).all (lstB P S))),(37,t37),(38,t38)],M) := by
    have hl1 : lenL (IL oa ob oz (ci (numL S))) = some (numL S).length := by rw [IL,ci_len]; rfl
    simp only [Int.natCast_zero] at h0
    generalize IL oa ob oz (ci (numL S)) = ov at *
    simp only [stQ,blkOf,cFst,cSnd,law04_RingStruck.B2,exF_seq,exF_region,exF_block,runL,wantL,stepL,evL,evC,LEnv.at,putL,loadFine,LEnv.keep,List.map_cons,List.map_nil,nbeq,Nat.reduceEqDiff,decide_true,decide_false,cond_true,cond_false,eq_self,hl1,h0]
  rw [stq5,e5]
  show exF LP (stQ 6) _ _ = _
  rw [stq6]
  generalize IL oa ob oz (ci (numL S)) = ov at *
  cases c : (numL S).all (lstB P S)
  · rw [if_neg (by simp)]
    have e6 : exF LP (cFst (stQ 6)) (stE n P bv fb [(10,.int .u64 (S : Int)),(11,ov),(12,.bool false),(37,t37),(38,t38)]) M = some (.exit 1,stE n P bv fb [(37,t37),(38,t38)],M) := by
      simp only [stQ,blkOf,cFst,cSnd,law04_RingStruck.B2,exF_seq,exF_region,exF_cond,exF_exit,runL,wantL,stepL,evL,LEnv.at,putL,loadFine,LEnv.keep,List.map_cons,List.map_nil,nbeq,Bool.not_false,Nat.reduceEqDiff,decide_true,decide_false,cond_true,cond_false,eq_self,unL]
    rw [e6]
  · rw [if_pos rfl]
    have e6 : exF LP (cFst (stQ 6)) (stE n P bv fb [(10,.int .u64 (S : Int)),(11,ov),(12,.bool true),(37,t37),(38,t38)]) M = some (.normal,stE n P bv fb [(10,.int .u64 (S : Int)),(11,ov),(37,t37),(38,t38),(94,.bool false)],M) := by
      simp only [stQ,blkOf,cFst,cSnd,law04_RingStruck.B2,exF_seq,exF_region,exF_cond,exF_skip,runL,wantL,stepL,evL,LEnv.at,putL,loadFine,LEnv.keep,List.map_cons,List.map_nil,nbeq,Bool.not_true,Nat.reduceEqDiff,decide_true,decide_false,cond_true,cond_false,eq_self,unL]
    rw [e6]
structure SM (fv : LV) (E : List Nat) (few : Nat) (M : LMem) : Prop where
  c1 : M[1]? = some ⟨[fv],true⟩
  c2 : M[2]? = some ⟨[.ents (entU E)],true⟩
  c3 : M[3]? = some ⟨[.map 2],true⟩
  c4 : M[4]? = some ⟨[.int .i64 (few : Int)],true⟩
theorem SM.mono {fv : LV} {E : List Nat} {few : Nat} {M M' : LMem} (h : SM fv E few M) (e : ∀ i,i < M.length → M'[i]? = M[i]?) : SM fv E few M' := by
  have := get_lt h.c4
  exact ⟨by rw [e 1 (by omega)]; exact h.c1,by rw [e 2 (by omega)]; exact h.c2,by rw [e 3 (by omega)]; exact h.c3,by rw [e 4 (by omega)]; exact h.c4⟩
theorem st_R {n : Nat} {P : List (Nat × Nat)} (G : Good n P) (a b : Bool) (z : Nat) (hv : FVok P a z) (E : List Nat) (few : Nat) (M : LMem) (H : SM (FN a b z P) E few M) {S : Nat} (hS : S < 2 ^ P.length) (hE : S ∈ E) (htw : allR (twP P S) = []) (oa ob : Bool) (oz : Nat) (bv fb t37 t38 : LV) :
    ∃ M',exF LP (stQ 7) (stE n P bv fb [(10,.int .u64 (S : Int)),(11,IL oa ob oz (ci (numL S))),(37,t37),(38,t38),(94,.bool false)]) M = some (.normal,stE n P bv fb [(37,t37),(38,t38),(145,.bool false)],M') ∧ SM (FN a b z P) E few M' := by
  have h12 := G.le12
  have he := evr_lt h12
  have hS12 : S < 4096 := Nat.lt_of_lt_of_le hS (Nat.le_trans (Nat.pow_le_pow_right (by omega) h12) (Nat.le_refl _))
  obtain ⟨ta,tb,tz,htz,hturn⟩ := turn_v G a b z hv hS oa ob oz
  have e7 : exF LP (cFst (stQ 7)) (stE n P bv fb [(10,.int .u64 (S : Int)),(11,IL oa ob oz (ci (numL S))),(37,t37),(38,t38),(94,.bool false)]) M = some (.normal,stE n P bv fb [(10,.int .u64 (S : Int)),(15,FN ta tb tz (twP P S)),(16,.int .i64 0),(37,t37),(38,t38)],M) := by
    have c1 := H.c1
    generalize IL oa ob oz (ci (numL S)) = ov at *
    generalize FN ta tb tz (twP P S) = TV at *
    generalize FN a b z P = FP at *
    simp only [stQ,blkOf,cFst,cSnd,law04_RingStruck.B2,law04_RingStruck.B2.R1,exF_region,runL,wantL,stepL,evL,evC,LEnv.at,putL,loadFine,loadL,cellsAt,Trk.putNew,Trk.up,Trk.touch,Trk.gives,Trk.calm,Trk.hit,opdsOf,Trk.fresh,LEnv.keep,List.map_cons,List.map_nil,nbeq,nble,ofAVs,List.any_cons,List.any_nil,Bool.or_false,Bool.false_or,Bool.true_or,Bool.and_true,Nat.reduceEqDiff,decide_true,decide_false,cond_true,cond_false,List.filter_nil,Nat.reduceAdd,Nat.reduceLeDiff,List.length_nil,List.length_cons,eq_self,List.append_nil,List.nil_append,List.getElem?_cons_zero,List.getElem?_cons_succ,List.take_succ_cons,List.drop_zero,List.take_nil,Nat.le_refl,c1,hturn]
  have e8 : exF LP (cFst (stQ 8)) (stE n P bv fb [(10,.int .u64 (S : Int)),(15,FN ta tb tz (twP P S)),(16,.int .i64 0),(37,t37),(38,t38)]) M = some (.normal,stE n P bv fb [(10,.int .u64 (S : Int)),(15,FN ta tb tz (twP P S)),(37,t37),(38,t38),(116,.bool false)],M) := by
    have c1 := H.c1
    have c3 := H.c3
    have lT : lenL (FN ta tb tz (twP P S)) = some P.length := by rw [FN_eq,twP_len]; rfl
    have lP : lenL (FN a b z P) = some P.length := by rw [FN_eq]; rfl
    have hlk := lookU M 2 E S H.c2
    rw [decide_eq_true hE] at hlk
    generalize FN ta tb tz (twP P S) = TV at *
    generalize FN a b z P = FP at *
    simp only [stQ,blkOf,cFst,cSnd,law04_RingStruck.B2,law04_RingStruck.B2.R2,beqF,exF_seq,exF_region,exF_cond,exF_skip,runL,wantL,stepL,evL,evC,LEnv.at,putL,loadFine,loadL,cellsAt,Trk.putNew,Trk.up,Trk.touch,Trk.gives,Trk.calm,Trk.hit,opdsOf,Trk.fresh,LEnv.keep,List.map_cons,List.map_nil,nbeq,nble,ofAV,bin_neq,List.any_cons,List.any_nil,Bool.or_false,Bool.false_or,Bool.true_or,Bool.and_true,Bool.not_true,Bool.not_false,Nat.reduceEqDiff,decide_true,decide_false,cond_true,cond_false,List.filter_nil,Nat.reduceAdd,Nat.reduceLeDiff,List.length_nil,List.length_cons,eq_self,not_true_eq_false,ne_eq,unL,List.getElem?_cons_zero,List.take_succ_cons,List.drop_zero,List.take_nil,Nat.le_refl,c1,c3,lT,lP,hlk]
  obtain ⟨M',h9,hl,hk⟩ := st_L1 (n := n) h12 a b z ta tb tz S hS12 bv fb t37 t38 (hv.imp id And.right) htz P.length 0 M (by omega)
  have e9 : exF LP (cFst (stQ 9)) (stE n P bv fb [(10,.int .u64 (S : Int)),(15,FN ta tb tz (twP P S)),(37,t37),(38,t38),(116,.bool false)]) M = some (.normal,stE n P bv fb [(15,FN ta tb tz (twP P S)),(37,t37),(38,t38)],M') := by
    have c1 := H.c1
    have lP : lenL (FN a b z P) = some P.length := by rw [FN_eq]; rfl
    simp only [Int.natCast_zero] at h9
    generalize FN ta tb tz (twP P S) = TV at *
    generalize FN a b z P = FP at *
    simp only [stQ,blkOf,cFst,cSnd,law04_RingStruck.B2,exF_seq,exF_region,exF_block,runL,wantL,stepL,evL,evC,LEnv.at,putL,loadFine,loadL,cellsAt,Trk.calm,Trk.hit,LEnv.keep,List.map_cons,List.map_nil,nbeq,nble,List.any_nil,Bool.or_false,Bool.false_or,Bool.true_or,Bool.and_true,Nat.reduceEqDiff,decide_true,decide_false,cond_true,cond_false,Nat.reduceAdd,Nat.reduceLeDiff,List.length_nil,List.length_cons,eq_self,List.getElem?_cons_zero,List.take_succ_cons,List.drop_zero,List.take_nil,Nat.le_refl,c1,lP,h9]
  have hr := fun m => ringless_c (twP_good G S) ta tb tz (evr P) he m
  have hsub : subP (twP P S) (evr P) = twP P S := by
    have := subP_all (twP P S)
    rwa [twP_len] at this
  rw [hsub,decide_eq_true htw] at hr
  have e10 : exF LP (stQ 10) (stE n P bv fb [(15,FN ta tb tz (twP P S)),(37,t37),(38,t38)]) M' = some (.normal,stE n P bv fb [(37,t37),(38,t38),(145,.bool false)],M') := by
    generalize FN ta tb tz (twP P S) = TV at *
    simp only [stQ,blkOf,cFst,cSnd,law04_RingStruck.B2,exF_seq,exF_region,exF_cond,exF_skip,runL,wantL,stepL,evL,evC,LEnv.at,putL,loadFine,LEnv.keep,List.map_cons,List.map_nil,nbeq,ofAVs,Bool.not_true,Nat.reduceEqDiff,decide_true,decide_false,cond_true,cond_false,eq_self,List.append_nil,List.nil_append,unL,hr]
  refine ⟨M',?_,H.mono hk⟩
  rw [stq7,e7]
  show exF LP (stQ 8) _ _ = _
  rw [stq8,e8]
  show exF LP (stQ 9) _ _ = _
  rw [stq9,e9]
  exact e10
theorem st_body {n : Nat} {P : List (Nat × Nat)} (G : Good n P) (a b : Bool) (z : Nat) (hv : FVok P a z) (E : List Nat) (few : Nat) (M : LMem) (H : SM (FN a b z P) E few M) (hE : ∀ o ∈ ords n,msk P o ∈ E) {S : Nat} (hS : S < 2 ^ P.length) (s : Option (List Nat)) (hs : ∀ o,s = some o → o.length < 1000) (x y : Bool) (w : Nat) (t37 : LV) :
    ∃ r tl M' x' y' w',exF LP (stQ 0) (stE n P (IL x y w (ci (s.getD []))) (.bool s.isSome) [(37,t37),(38,.int .u64 (S : Int)),(39,.bool true)]) M = some (r,stE n P (IL x' y' w' (ci ((if okS P S = true then bstS s (numL S) else s).getD []))) (.bool (if okS P S = true then bstS s (numL S) else s).isSome) ((37,t37) :: (38,.int .u64 (S : Int)) :: tl),M') ∧ (r = .exit 1 ∨ r = .normal) ∧ SM (FN a b z P) E few M' := by
  have h12 := G.le12
  have hS12 : S < 4096 := Nat.lt_of_lt_of_le hS (Nat.le_trans (Nat.pow_le_pow_right (by omega) h12) (Nat.le_refl _))
  rw [st_A G a b z M H.c1 S hS12]
  by_cases c : okS P S = true
  · rw [if_pos c,if_pos c]
    obtain ⟨oa,ob,oz,hoz,eB⟩ := st_B (n := n) P M S hS12 (IL x y w (ci (s.getD []))) (.bool s.isSome) t37
    have hnl := num_le S
    obtain ⟨x',y',w',eC⟩ := st_C (n := n) P M S (numL S) (by omega) oa ob oz s hs x y w t37 (.int .u64 (S : Int))
    rw [eB,eC,st_L G a b z M H.c1 S hS12 oa ob oz hoz]
    by_cases cl : (numL S).all (lstB P S) = true
    · rw [if_pos cl]
      obtain ⟨o,ho,hm⟩ := least_met G hS c fun i hi => by
        have := List.all_eq_true.1 cl i hi
        simpa [lstB] using this
      obtain ⟨M',e,HM⟩ := st_R G a b z hv E few M H hS (by rw [← hm]; exact hE o ho) (twP_none G ho hm) oa ob oz (IL x' y' w' (ci ((bstS s (numL S)).getD []))) (.bool (bstS s (numL S)).isSome) t37 (.int .u64 (S : Int))
      exact ⟨_,_,M',x',y',w',e,.inr rfl,HM⟩
    · rw [if_neg cl]
      exact ⟨_,[],M,x',y',w',rfl,.inl rfl,H⟩
  · rw [if_neg c,if_neg c]
    exact ⟨_,[],M,x,y,w,rfl,.inl rfl,H⟩
end Go.Am.Ring
set_option linter.unusedVariables false
set_option linter.unusedSimpArgs false
set_option maxRecDepth 10000
set_option maxHeartbeats 1000000
namespace Go.Am.Ring
open Go.Am.G
abbrev stepS (P : List (Nat × Nat)) (s : Option (List Nat)) (S : Nat) : Option (List Nat) := if okS P S = true then bstS s (numL S) else s
theorem step_short (P : List (Nat × Nat)) {s : Option (List Nat)} (hs : ∀ o,s = some o → o.length < 1000) (S : Nat) : ∀ o,stepS P s S = some o → o.length < 1000 := by
  intro o h
  have hn := num_le S
  unfold stepS at h
  split at h
  · cases s with
    | none => simp only [bstS,Option.some.injEq] at h; subst h; omega
    | some y =>
      simp only [bstS] at h
      split at h
      · cases h; omega
      · exact hs o h
  · exact hs o h
theorem st_L2 {n : Nat} {P : List (Nat × Nat)} (G : Good n P) (a b : Bool) (z : Nat) (hv : FVok P a z) (E : List Nat) (few : Nat) (hE : ∀ o ∈ ords n,msk P o ∈ E) (j : Nat) : ∀ (S : Nat) (M : LMem) (s : Option (List Nat)) (x y : Bool) (w : Nat),S + j = 2 ^ P.length → SM (FN a b z P) E few M → (∀ o,s = some o → o.length < 1000) →
    ∃ M' x' y' w',exF LP law04_RingStruck.L2 (stE n P (IL x y w (ci (s.getD []))) (.bool s.isSome) [(37,.int .u64 ((2 ^ P.length : Nat) : Int)),(38,.int .u64 (S : Int))]) M =
      some (.exit 0,[(3,.int .i64 (n : Int)),(4,.ptr 1 0 1),(6,.ptr 4 0 1),(8,IL x' y' w' (ci (((List.range' S j).foldl (stepS P) s).getD [])))],M') ∧ SM (FN a b z P) E few M' := by
  have h12 := G.le12
  have hp12 : 2 ^ P.length ≤ 2 ^ 12 := Nat.pow_le_pow_right (by omega) h12
  induction j with
  | zero =>
    intro S M s x y w hS H hs
    refine ⟨M,x,y,w,?_,H⟩
    rw [law04_RingStruck.L2_eq]
    rw [List.range'_zero,List.foldl_nil]
    generalize (2 ^ P.length : Nat) = N at *
    generalize IL x y w (ci (s.getD [])) = bv at *
    simp only [law04_RingStruck.B2,exF_seq,exF_region,exF_cond,exF_exit,runL,wantL,stepL,evL,LEnv.at,putL,loadFine,LEnv.keep,List.map_cons,List.map_nil,nbeq,bin_lss,Nat.reduceEqDiff,decide_true,decide_false,cond_true,cond_false,eq_self,show ¬ ((S : Int) < (N : Int)) by omega]
  | succ j ih =>
    intro S M s x y w hS H hs
    have hSlt : S < 2 ^ P.length := by omega
    obtain ⟨r,tl,M1,x1,y1,w1,hbody,hr,H1⟩ := st_body G a b z hv E few M H hE hSlt s hs x y w (.int .u64 ((2 ^ P.length : Nat) : Int))
    obtain ⟨M',x',y',w',hex,H'⟩ := ih (S + 1) M1 (stepS P s S) x1 y1 w1 (by omega) H1 (step_short P hs S)
    refine ⟨M',x',y',w',?_,H'⟩
    rw [List.range'_succ,List.foldl_cons,← hex,law04_RingStruck.L2_eq]
    have hw : IntKind.u64.wrap ((S : Int) + 1) = ((S + 1 : Nat) : Int) := by rw [IntWalk.u64_in _ (by omega)]; omega
    have hSS : (S : Int) < ((2 ^ P.length : Nat) : Int) := by omega
    have hB : law04_RingStruck.B2 = .seq (cFst law04_RingStruck.B2) (.seq (cFst (cSnd law04_RingStruck.B2)) (.seq (.block 1 (stQ 0)) (cSnd (cSnd (cSnd law04_RingStruck.B2))))) := rfl
    rw [hB]
    have h1 : ∀ bv fb,exF LP (cFst law04_RingStruck.B2) (stE n P bv fb [(37,.int .u64 ((2 ^ P.length : Nat) : Int)),(38,.int .u64 (S : Int))]) M = some (.normal,stE n P bv fb [(37,.int .u64 ((2 ^ P.length : Nat) : Int)),(38,.int .u64 (S : Int)),(39,.bool true)],M) := by
      intro bv fb
      generalize (2 ^ P.length : Nat) = N at *
      simp only [law04_RingStruck.B2,cFst,exF_region,runL,wantL,stepL,evL,LEnv.at,putL,loadFine,LEnv.keep,List.map_cons,List.map_nil,nbeq,bin_lss,Nat.reduceEqDiff,decide_true,decide_false,cond_true,cond_false,eq_self,hSS]
    have h2 : ∀ bv fb,exF LP (cFst (cSnd law04_RingStruck.B2)) (stE n P bv fb [(37,.int .u64 ((2 ^ P.length : Nat) : Int)),(38,.int .u64 (S : Int)),(39,.bool true)]) M = some (.normal,stE n P bv fb [(37,.int .u64 ((2 ^ P.length : Nat) : Int)),(38,.int .u64 (S : Int)),(39,.bool true)],M) := by
      intro bv fb
      simp only [law04_RingStruck.B2,cFst,cSnd,exF_cond,exF_skip,evL,LEnv.at,nbeq,Nat.reduceEqDiff,decide_true,decide_false,cond_true,cond_false,eq_self]
    have h3 : ∀ bv fb tl,exF LP (cSnd (cSnd (cSnd law04_RingStruck.B2))) (stE n P bv fb ((37,.int .u64 ((2 ^ P.length : Nat) : Int)) :: (38,.int .u64 (S : Int)) :: tl)) M1 = some (.normal,stE n P bv fb [(37,.int .u64 ((2 ^ P.length : Nat) : Int)),(38,.int .u64 ((S + 1 : Nat) : Int))],M1) := by
      intro bv fb tl
      generalize (2 ^ P.length : Nat) = N at *
      simp only [law04_RingStruck.B2,cSnd,exF_region,runL,wantL,stepL,evL,evC,LEnv.at,putL,loadFine,LEnv.keep,List.map_cons,List.map_nil,nbeq,bin_add,Nat.reduceEqDiff,decide_true,decide_false,cond_true,cond_false,eq_self,hw]
    have hkp : ∀ bv fb (q : Int),LEnv.keep (stE n P bv fb [(37,.int .u64 ((2 ^ P.length : Nat) : Int)),(38,.int .u64 q)]) [3,4,5,6,7,8,9,37,38] = stE n P bv fb [(37,.int .u64 ((2 ^ P.length : Nat) : Int)),(38,.int .u64 q)] := by
      intro bv fb q
      simp only [LEnv.keep,LEnv.at,List.map_cons,List.map_nil,nbeq,Nat.reduceEqDiff,decide_true,decide_false,cond_true,cond_false]
    rw [hkp,exF_seq,h1]
    simp only
    rw [exF_seq,h2]
    simp only
    rw [exF_seq,exF_block,hbody]
    rcases hr with rfl | rfl
    · simp only [nbeq,decide_true,cond_true]
      rw [h3]
      simp only
      rw [hkp]
    · simp only
      rw [h3]
      simp only
      rw [hkp]
theorem struck_law (f k : Nat) (hf : f < 256) (hk : k < 256) (bs : List Nat) (hb : bs.length = 24) (hbs : ∀ x ∈ bs,x < 256) :
    clF LP n_law04_RingStruck [.agg (bys (f :: k :: bs))] [] = some (.P,.bool true,[]) := by
  obtain ⟨a,b,z,hv,hmade⟩ := made_c f k hf hk bs hb hbs 5 9 (by omega) (by omega)
  have hn : 2 ≤ 2 + f % (5 - 1) ∧ 2 + f % (5 - 1) ≤ 6 := by omega
  have G := made_good hn.1 hn.2 bs (i := k % (9 + 1)) (by omega)
  generalize madeP (2 + f % (5 - 1)) bs (k % (9 + 1)) = P at *
  generalize (2 + f % (5 - 1) : Nat) = n at *
  have h12 := G.le12
  have hlen : (bys (f :: k :: bs)).length = 26 := by simp [hb]
  have htk : (bys (f :: k :: bs)).take 26 = bys (f :: k :: bs) := List.take_of_length_le (by rw [hlen]; exact Nat.le_refl _)
  let W : LBlk := ⟨bys (f :: k :: bs),true⟩
  let M5 : LMem := [W,⟨[FN a b z P],true⟩,⟨[.ents []],true⟩,⟨[.map 2],true⟩,⟨[.int .i64 100],true⟩]
  have hC5 : Cl M5 := by
    intro i hi B hB
    have hi5 : 5 ≤ i := hi
    simp only [M5,List.mem_cons,List.not_mem_nil,or_false] at hB
    rcases hB with rfl | rfl | rfl | rfl | rfl
    · exact noRefs_int i .u8 (ci (f :: k :: bs))
    · rw [FN_eq]; rfl
    · rfl
    · simp only [LV.noRefs,LV.noRef,nbeq,Bool.and_true,Bool.not_eq_true',decide_eq_false_iff_not]; omega
    · rfl
  have hI5 : SI (FN a b z P) ([],100) [1,2,3,4] M5 := ⟨rfl,rfl,rfl,rfl,rfl⟩
  obtain ⟨M10,O',hall,hI⟩ := all_c (m := M5) (by omega) G.le6 (struckVis G a b z) ([],100) [1,2,3,4] hI5 hC5 rfl rfl
  have hI : SI (FN a b z P) ((ords n).foldl (fun s o => (addU s.1 (msk P o),min s.2 (contr P o))) ([],100)) O' M10 := hI
  rw [struck_fold,few_all G] at hI
  have H : SM (FN a b z P) ((ords n).foldl (fun E o => addU E (msk P o)) []) (FW n P) M10 := ⟨hI.c1,hI.c2,hI.c3,hI.c4⟩
  have hE : ∀ o ∈ ords n,msk P o ∈ (ords n).foldl (fun E o => addU E (msk P o)) [] := fun o ho => (add_mem P _ _ _).2 (.inr ⟨o,ho,rfl⟩)
  generalize (ords n).foldl (fun E o => addU E (msk P o)) [] = E at *
  obtain ⟨M11,x,y,w,hex,H1⟩ := st_L2 G a b z hv E (FW n P) hE (2 ^ P.length) 0 M10 none true true 0 (by omega) H (by simp)
  have hst : (List.range' 0 (2 ^ P.length)).foldl (stepS P) none = some (strL n P) := by rw [← List.range_eq_range']; exact strL_first G
  rw [hst] at hex
  obtain ⟨sa,sb,sz,hS⟩ := strike_v n P G a b z hv
  have hF := fun m => fewest_c n P G a b z m
  have hsl := strL_len G
  have hsame : ∀ m,clF LP n_law04_same [IL sa sb sz (ci (strL n P)),IL x y w (ci (strL n P))] m = some (.P,.bool true,m) := fun m => by
    have hfl : FW n P ≤ 13 := (fwD_le anyM P n G.le6 0).1
    have h1 := same_c sa sb x y sz w (ci (strL n P)) (ci (strL n P)) (by rw [ci_len,hsl]; omega) (by rw [ci_len,hsl]; omega) m
    rw [decide_eq_true rfl] at h1
    exact h1
  have hb1 : LV.lst sa sb sz (strL n P).length ((ci (strL n P)).map (LV.int .i64)) = IL sa sb sz (ci (strL n P)) := by rw [IL,ci_len]
  rw [hb1] at hS
  have lB : lenL (IL x y w (ci (strL n P))) = some (strL n P).length := by rw [IL,ci_len]; rfl
  rw [hsl] at lB
  have he := evr_lt h12
  have hp12 : 2 ^ P.length ≤ 2 ^ 12 := Nat.pow_le_pow_right (by omega) h12
  have hpos : 0 < 2 ^ P.length := Nat.pow_pos (by omega)
  have hshl := bits_shl (show P.length < 64 by omega)
  have hsub := bits_pred (a := 2 ^ P.length) (by omega) hpos
  have hwe : IntKind.u64.wrap (((evr P : Nat) : Int) + 1) = ((2 ^ P.length : Nat) : Int) := by rw [IntWalk.u64_in _ (by omega)]; unfold evr; omega
  have lP : lenL (FN a b z P) = some P.length := by rw [FN_eq]; rfl
  refine call_P lp_law04_RingStruck rfl (by simp only [LV.pures,LV.pure,pures_int,Bool.and_self]) (m1 := M11) ?_ rfl []
  have e5 : ((5 : Nat) : Int) = 5 := rfl
  have e9 : ((9 : Nat) : Int) = 9 := rfl
  rw [e5,e9] at hmade
  have hall : clF LP n_law04_all [.int .i64 (n : Int),.func n_law04_RingStruck_1 [] [.ptr 1 0 1,.ptr 3 0 1,.ptr 4 0 1]] M5 = some (.W,.tup [],M10) := hall
  have h1 := H.c1
  have d1 := H1.c1
  have d4 := H1.c4
  have i0 : IL true true 0 (ci ((none : Option (List Nat)).getD [])) = .lst true true 0 0 [] := rfl
  rw [i0] at hex
  simp only [Int.natCast_zero,stE,Option.isSome_none,Option.getD_some] at hex
  have hFe : (fwD anyM P n 0).1 = FW n P := rfl
  rw [hFe] at hF
  simp only [M5,W] at hall
  have hsub : binL .sub (.int .u64 ((2 ^ P.length : Nat) : Int)) (.int .u64 1) = some (.int .u64 ((evr P : Nat) : Int)) := hsub
  have hws : IntKind.u64.wrap (((2 ^ P.length : Nat) : Int) - 1) = ((evr P : Nat) : Int) := by rw [IntWalk.u64_in _ (by omega)]; unfold evr; omega
  generalize IL x y w (ci (strL n P)) = BV at *
  generalize IL sa sb sz (ci (strL n P)) = SV at *
  generalize (evr P : Nat) = ev at *
  generalize (2 ^ P.length : Nat) = N at *
  generalize FW n P = fw at *
  simp only [FN_eq] at hmade hall hF hS d1 h1 lP ⊢
  generalize pcI (P.map castP) = PI at *
  generalize bys (f :: k :: bs) = Wb at *
  simp only [law04_RingStruck,law04_RingStruck.B,law04_RingStruck.B.R0,law04_RingStruck.B.R1,law04_RingStruck.B.R2,law04_RingStruck.B.R3]
  repeat (rw [exF_seq]; try simp (maxSteps := 1000000) only [beqT,exF_seq,exF_region,exF_block,exF_ret,runL,wantL,stepL,evL,evC,LEnv.at,putL,loadFine,loadL,cellsAt,Trk.putNew,Trk.up,Trk.touch,Trk.gives,Trk.calm,Trk.hit,opdsOf,Trk.fresh,LEnv.keep,LEnv.ofFrom,List.map_cons,List.map_nil,nbeq,nble,ofAV,ofAVs,bin_add,bin_eql,List.any_cons,List.any_nil,Bool.or_false,Bool.false_or,Bool.true_or,Bool.or_true,Bool.and_true,Bool.false_and,Bool.not_true,Bool.not_false,Nat.reduceEqDiff,decide_true,decide_false,cond_true,cond_false,List.filter_nil,List.filter_cons,Nat.reduceAdd,Nat.reduceLeDiff,reduceCtorEq,List.length_nil,List.length_cons,if_true,eq_self,retL,resultsL,resAllL,resOfL,List.append_nil,List.nil_append,List.cons_append,LV.cells,allocL,List.getElem?_cons_zero,List.getElem?_cons_succ,storeL,spliceL,List.take_zero,List.take_succ_cons,List.drop_zero,List.drop_succ_cons,List.drop_nil,List.take_nil,Nat.le_refl,List.set_cons_zero,List.set_cons_succ,LV.scalar,List.all_cons,List.all_nil,hlen,htk,hmade,hall,h1,lP,hshl,hsub,hwe,hex,d1,d4,hF,hS,hsame,lB,works_c])
theorem struck_in (ns : List Int) (hl : ns.length = 26) (h : ∀ x ∈ ns,0 ≤ x ∧ x < 256) : clF LP n_law04_RingStruck [.agg (ns.map (LV.int .u8))] [] = some (.P,.bool true,[]) := by
  obtain ⟨f,k,bs,e,hf,hk,hb,hbs⟩ := lay_of ns hl h
  rw [e]
  exact struck_law f k hf hk bs hb hbs
end Go.Am.Ring
set_option linter.unusedVariables false
namespace Go.Am
variable [Glo]
open Go.RowKit
omit [Glo] in
theorem trodAll_below {H : Type} {enc : TypeId × Value → H} {P : Program} {W W' : World} (hl : laidOutB P = true) (hb : Below W.heap.size W W') : ∀ {ts : List TypeId} {vs : List Value} {ds : List (DataW H)} {ps : List MemPlace},(ts.all fun t => P.readableRec t && decide (t < P.types.size)) = true →
    DataW.TrodAll enc P W 0 (fun _ => true) true ts vs ds ps → (∀ x ∈ ps,x.block < W.heap.size) → DataW.TrodAll enc P W' 0 (fun b => decide (b < W.heap.size)) true ts vs ds ps
  | [],[],[],_,_,h,_ => h
  | t :: ts,v :: vs,d :: ds,ps,hr,⟨p,q,h1,h2,e⟩,hlt => by
    simp only [List.all_cons,Bool.and_eq_true,decide_eq_true_eq] at hr
    subst e
    exact ⟨p,q,Below.trod hl hr.1.1 hr.1.2 h1 hb (fun x hx => hlt x (List.mem_append_left _ hx)),trodAll_below hl hb hr.2 h2 (fun x hx => hlt x (List.mem_append_right _ hx)),rfl⟩
end Go.Am
set_option linter.unusedVariables false
namespace Go.Am
variable [Glo]
open Go.RowKit
def sumPc : Nat → List (Nat × Nat) → Option Nat
  | off,[] => some off
  | off,(o,k) :: r => cond (Nat.beq o off) (sumPc (off + k) r) none
def pcsF (P : Program) (g : TypeId → Option Nat) : List Field → Option (List (Nat × Nat))
  | [] => some []
  | f :: r => match g f.type with
    | some k => match pcsF P g r with
      | some l => cond (Nat.beq (P.cellsOf f.type) k) (some ((f.offset,k) :: l)) none
      | none => none
    | none => none
def u8T (P : Program) : Nat → TypeId → Option Nat
  | 0,_ => none
  | n + 1,t => match P.underlying t with
    | some (.int .u8) => some 1
    | some (.array m e) => match u8T P n e with
      | some k => cond (Nat.beq (P.cellsOf e) k && Nat.beq (P.cellsOf t) (m * k)) (some (m * k)) none
      | none => none
    | some (.struct fs) => match pcsF P (u8T P n) fs.toList with
      | some l => match sumPc 0 l with
        | some k => cond (Nat.beq (P.cellsOf t) k) (some k) none
        | none => none
      | none => none
    | _ => none
def U8s (cs : List Value) : Prop := ∀ (i : Nat) (v : Value),cs[i]? = some v → ∃ n : Int,v = .int .u8 n ∧ (Lit.int .u8 n).wf = true
omit [Glo] in
theorem sumPc_in : ∀ (l : List (Nat × Nat)) (off tot : Nat),sumPc off l = some tot → ∀ i,off ≤ i → i < tot → ∃ p ∈ l,p.1 ≤ i ∧ i < p.1 + p.2
  | [],off,tot,h,i,h1,h2 => by simp only [sumPc,Option.some.injEq] at h; omega
  | (o, k) :: r,off,tot,h,i,h1,h2 => by
    simp only [sumPc] at h
    cases c : Nat.beq o off <;> rw [c] at h
    · cases h
    · have e : o = off := by simpa using c
      subst e
      by_cases hi : i < o + k
      · exact ⟨(o,k),by simp,h1,hi⟩
      · obtain ⟨p,hp,h3⟩ := sumPc_in r _ _ h i (by omega) h2
        exact ⟨p,by simp [hp],h3⟩
omit [Glo] in
theorem pcsF_in {P : Program} {g : TypeId → Option Nat} : ∀ (fs : List Field) (l : List (Nat × Nat)),pcsF P g fs = some l → ∀ p ∈ l,∃ (i : Nat) (f : Field),fs[i]? = some f ∧ f.offset = p.1 ∧ g f.type = some p.2 ∧ P.cellsOf f.type = p.2
  | [],l,h,p,hp => by simp only [pcsF,Option.some.injEq] at h; subst h; cases hp
  | f :: r, l,h,p,hp => by
    simp only [pcsF] at h
    split at h
    · rename_i k hk
      split at h
      · rename_i l' hl'
        cases c : Nat.beq (P.cellsOf f.type) k <;> rw [c] at h
        · cases h
        · simp only [cond_true,Option.some.injEq] at h
          subst h
          rcases List.mem_cons.1 hp with rfl | hp
          · exact ⟨0,f,rfl,rfl,hk,by simpa using c⟩
          · obtain ⟨i,f',h1,h2⟩ := pcsF_in r l' hl' p hp
            exact ⟨i + 1,f',by simpa using h1,h2⟩
      · cases h
    · cases h
section
variable {H : Type} {enc : TypeId × Value → H} {P : Program} {w : World} {base : Nat} {sp : Nat → Bool} {held : Bool}
omit [Glo] in
theorem u8T_ok : ∀ (n : Nat) (t : TypeId) (fuel : Nat) (cs : List Value) (x : DataW H × List MemPlace) (k : Nat),u8T P n t = some k → DataW.trod enc P w base sp held fuel t cs = some x → U8s cs ∧ cs.length = k
  | 0,_,_,_,_,_,h,_ => by cases h
  | n + 1,t,fuel,cs,x,k,h,hx => by
    simp only [u8T] at h
    split at h
    · rename_i ht
      cases h
      obtain ⟨a,rfl,_,hw⟩ := DataW.trod_int ht hx
      refine ⟨fun i v hv => ?_,rfl⟩
      match i with
      | 0 => simp at hv; subst hv; exact ⟨a,rfl,hw⟩
      | i + 1 => simp at hv
    · rename_i m e ht
      split at h
      · rename_i k' hk'
        cases c : (Nat.beq (P.cellsOf e) k' && Nat.beq (P.cellsOf t) (m * k')) <;> rw [c] at h
        · cases h
        · simp only [cond_true,Option.some.injEq] at h
          subst h
          simp only [Bool.and_eq_true] at c
          have c1 : P.cellsOf e = k' := by simpa using c.1
          have c2 : P.cellsOf t = m * k' := by simpa using c.2
          obtain ⟨xs,m',_,_,hl,hxl,hf⟩ := DataW.trod_array ht hx
          rw [c2] at hl
          refine ⟨fun i v hv => ?_,hl⟩
          have hi : i < m * k' := by rw [← hl]; exact (List.getElem?_eq_some_iff.1 hv).1
          have hk0 : 0 < k' := by
            rcases Nat.eq_zero_or_pos k' with e0 | e0
            · rw [e0] at hi; simp at hi
            · exact e0
          have h1 : i / k' < m := (Nat.div_lt_iff_lt_mul hk0).2 hi
          have h2 : i % k' < k' := Nat.mod_lt _ hk0
          have h3 : (i / k') * k' + i % k' = i := by rw [Nat.mul_comm]; exact Nat.div_add_mod i k'
          have h4 := hf (i / k') h1
          rw [c1] at h4
          obtain ⟨y,hy⟩ : ∃ y,xs[i / k']? = some y := ⟨xs[i / k']'(by omega),List.getElem?_eq_getElem (by omega)⟩
          rw [hy] at h4
          obtain ⟨h5,_⟩ := u8T_ok n e m' _ y k' hk' h4
          refine h5 (i % k') v ?_
          rw [List.getElem?_take,if_pos h2,List.getElem?_drop,h3]
          exact hv
      · cases h
    · rename_i fs ht
      split at h
      · rename_i l hl'
        split at h
        · rename_i k' hk'
          cases c : Nat.beq (P.cellsOf t) k' <;> rw [c] at h
          · cases h
          · simp only [cond_true,Option.some.injEq] at h
            subst h
            have c2 : P.cellsOf t = k' := by simpa using c
            obtain ⟨xs,m',_,_,hl,hxl,hf⟩ := DataW.trod_struct ht hx
            rw [c2] at hl
            refine ⟨fun i v hv => ?_,hl⟩
            have hi : i < k' := by rw [← hl]; exact (List.getElem?_eq_some_iff.1 hv).1
            obtain ⟨p,hp,p1,p2⟩ := sumPc_in l 0 k' hk' i (Nat.zero_le _) hi
            obtain ⟨j,f,f1,f2,f3,f4⟩ := pcsF_in _ _ hl' p hp
            have f1' : fs[j]? = some f := by simpa using f1
            have hj : j < fs.size := (Array.getElem?_eq_some_iff.1 f1').1
            have h4 := hf j f f1'
            rw [f4,f2] at h4
            obtain ⟨y,hy⟩ : ∃ y,xs[j]? = some y := ⟨xs[j]'(by omega),List.getElem?_eq_getElem (by omega)⟩
            rw [hy] at h4
            obtain ⟨h5,_⟩ := u8T_ok n f.type m' _ y p.2 f3 h4
            refine h5 (i - p.1) v ?_
            rw [List.getElem?_take,if_pos (by omega),List.getElem?_drop,show p.1 + (i - p.1) = i by omega]
            exact hv
        · cases h
      · cases h
    · cases h
omit [Glo] in
theorem u8s_list : ∀ {cs : List Value},U8s cs → ∃ ns : List Int,cs = ns.map (Value.int .u8) ∧ ∀ n ∈ ns,0 ≤ n ∧ n < 256
  | [],_ => ⟨[],rfl,by simp⟩
  | v :: r,h => by
    obtain ⟨n,rfl,hw⟩ := h 0 v rfl
    obtain ⟨ns,e,hb⟩ := u8s_list (cs := r) fun i v hv => h (i + 1) v (by simpa using hv)
    refine ⟨n :: ns,by rw [e]; rfl,?_⟩
    intro x hx
    rcases List.mem_cons.1 hx with rfl | hx
    · have := bounds_u8 hw; omega
    · exact hb x hx
omit [Glo] in
theorem argOk_bytes (w : World) (ns : List Int) : ArgOk w (.agg (ns.map (Value.int .u8)).toArray) (.agg (ns.map (LV.int .u8))) := by
  refine ⟨fun _ => [],[],fun _ => .agg (ns.map (AV.int .u8)),fun _ => rfl,fun ρ b _ => ⟨.agg ?_,fun i cs p h => by simp at h⟩,fun s b _ => .agg ?_⟩
  · show VRs ρ _ (ns.map (Value.int .u8)).toArray.toList
    simp only []
    induction ns with
    | nil => exact .nil
    | cons n r ih => exact .cons (.int _ _) ih
  · exact LRs.map _ fun x _ => .int _ _
omit [Glo] in
theorem argOk_struct {r : Reach} {b0 n k : Nat} {t : TypeId} {fs : Array Field} {v : Value} {d : DataW H} {ps : List MemPlace} (ht : P.underlying t = some (.struct fs)) (hk : u8T P n t = some k)
    (hval : Value.okWide P w r b0 t v) (hd : DataW.Trod enc P w base sp held t v d ps) :
    ∃ ns : List Int,ns.length = k ∧ (∀ n ∈ ns,0 ≤ n ∧ n < 256) ∧ ArgOk w v (.agg (ns.map (LV.int .u8))) := by
  obtain ⟨cs,rfl,_⟩ := Go.WideShapes.okWide_struct ht hval
  obtain ⟨fuel,hf⟩ := hd
  obtain ⟨h1,h2⟩ := u8T_ok n t fuel _ _ k hk hf
  obtain ⟨ns,e,hb⟩ := u8s_list h1
  have e' : cs = (ns.map (Value.int .u8)).toArray := by
    apply Array.ext'
    simpa [Value.cells] using e
  subst e'
  refine ⟨ns,?_,hb,argOk_bytes w ns⟩
  simpa [Value.cells] using h2
end
end Go.Am
set_option linter.unusedVariables false
namespace Go.Am
open Go.RowKit
theorem laid_u8 {H : Type} {enc : TypeId × Value → H} {P : Program} {w : World} {base : Nat} {sp : Nat → Bool} {held : Bool} {n : Nat} {e t : TypeId} {fuel : Nat} {cs : List Value} {l : List Int} {p : List MemPlace}
    (ht : P.underlying t = some (.array n e)) (he : P.underlying e = some (.int .u8)) (hc : P.cellsOf e = 1) (hct : P.cellsOf t = n)
    (hd : DataW.trod enc P w base sp held fuel t cs = some (.agg (l.map fun x => .lit (.int .u8 x)),p)) : cs = l.map (Value.int .u8) := by
  obtain ⟨xs,m,_,hx1,hlen,hn,hel⟩ := DataW.trod_array ht hd
  simp only [Prod.mk.injEq,DataW.agg.injEq] at hx1
  have hl : l.length = n := by
    have := congrArg List.length hx1.1
    simpa [hn] using this
  rw [hct] at hlen
  apply List.ext_getElem (by simp [hlen,hl])
  intro i h1 h2
  have hi : i < n := by omega
  have h := hel i hi
  rw [hc,Nat.mul_one,List.getElem?_eq_getElem (by omega)] at h
  obtain ⟨k,e1,e2,_⟩ := DataW.trod_int he h
  have e3 : (xs.map (·.1))[i]? = (l.map fun x => DataW.lit (Lit.int .u8 x))[i]? := by rw [hx1.1]
  rw [List.getElem?_map,List.getElem?_map,List.getElem?_eq_getElem (by omega),List.getElem?_eq_getElem (by omega),e2] at e3
  simp only [Option.map_some,Option.some.injEq,DataW.lit.injEq,Lit.int.injEq,true_and] at e3
  have e4 : cs[i]? = some (.int .u8 k) := by
    have := congrArg (fun q : List Value => q[0]?) e1
    simp only [List.getElem?_take,List.getElem?_drop,Nat.add_zero,Nat.zero_lt_one,if_true] at this
    simpa using this
  rw [List.getElem?_eq_getElem h1] at e4
  rw [Option.some.inj e4,List.getElem_map,e3]
theorem laid_pick {P : Program} {w : World} : ∀ {laid : List (String × DataW Unit)} {ps : List MemPlace},DataW.LaidVars P w laid ps → ∀ {k : Nat} {n : String} {d : DataW Unit},laid[k]? = some (n,d) →
    ∃ g t cs fuel p,P.globalNamed n = some g ∧ (P.globals[g]?).map (·.type) = some t ∧ w.var? P n = some cs ∧ DataW.trod (fun _ => ()) P w 0 (fun _ => true) false fuel t cs.toList = some (d,p)
  | [],_,_,k,n,d,hk => by simp at hk
  | (n0,d0) :: r,ps,h,k,n,d,hk => by
    obtain ⟨g,t,cs,fuel,p,q,h1,h2,h3,h4,h5,_⟩ := h
    cases k with
    | zero => cases hk; exact ⟨g,t,cs,fuel,p,h1,h2,h3,h4⟩
    | succ k => exact laid_pick h5 (by simpa using hk)
theorem laid_at {P : Program} {w : World} {laid : List (String × DataW Unit)} (h : laidMetH P laid w) (hn : (laid.all fun x => x.2.handleName?.isNone) = true) {k : Nat} {nm : String} {l : List Int} (hk : laid[k]? = some (nm,.agg (l.map fun x => .lit (.int .u8 x))))
    {g n : Nat} {t e : TypeId} (hg : P.globalNamed nm = some g) (hty : (P.globals[g]?).map (·.type) = some t) (ht : P.underlying t = some (.array n e)) (he : P.underlying e = some (.int .u8)) (hc : P.cellsOf e = 1) (hct : P.cellsOf t = n) (ρ : PM) :
    CellsAt ρ w (l.map (AV.int .u8)) ⟨g,0,0,false⟩ := by
  rw [MakeChecks.laidMetH_plain _ _ _ hn] at h
  obtain ⟨ps,hv,_⟩ := h
  obtain ⟨g',t',cs,fuel,p,h1,h2,h3,h4⟩ := laid_pick hv hk
  obtain rfl := Option.some.inj (hg.symm.trans h1)
  obtain rfl := Option.some.inj (hty.symm.trans h2)
  have hcs := laid_u8 ht he hc hct h4
  refine ⟨fun j c hj => ?_⟩
  rw [List.getElem?_map] at hj
  obtain ⟨x,hx,rfl⟩ := Option.map_eq_some_iff.1 hj
  refine ⟨.int .u8 x,?_,.int _ _⟩
  have := World.var?_cell hg h3 (0 + j)
  rw [this,Nat.zero_add,← Array.getElem?_toList,hcs,List.getElem?_map,hx]; rfl
end Go.Am
