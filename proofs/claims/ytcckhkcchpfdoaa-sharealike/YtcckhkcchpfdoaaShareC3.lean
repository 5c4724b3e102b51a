import Derived.Test.YtcckhkcchpfdoaaShareC1
set_option linter.unusedVariables false
set_option linter.unusedSimpArgs false
set_option maxRecDepth 10000
namespace Go.Am.Share
def wg (of : Int) : List Int → List Int → Int × Int → Int × Int
  | r :: rs,o :: os,a => wg of rs os (if o = of then (a.1 + r,if r > a.2 then r else a.2) else a)
  | _,_,a => a
def ws (of : Int) : List Int → List Int → Int → Int
  | r :: rs,o :: os,w => ws of rs os (if o = of then w + r else w)
  | _,_,w => w
theorem wg_ws (of : Int) : ∀ (r o : List Int) (a : Int × Int),(wg of r o a).1 = ws of r o a.1
  | [],_,a => by simp [wg,ws]
  | r :: rs,[],a => by simp [wg,ws]
  | r :: rs,o :: os,a => by
    rw [wg,ws,wg_ws of rs os]
    by_cases h : o = of <;> simp [h]
def Ok20 (l : List Int) : Prop := ∀ x ∈ l,0 ≤ x ∧ x ≤ 20
theorem Ok20.at {l : List Int} (h : Ok20 l) (k : Nat) (hk : k < l.length) : 0 ≤ l[k] ∧ l[k] ≤ 20 := h _ (List.getElem_mem hk)
theorem ws_bound (of : Int) : ∀ (r o : List Int) (w : Int),Ok20 r → 0 ≤ w → 0 ≤ ws of r o w ∧ ws of r o w ≤ w + 20 * r.length
  | [],_,w,_,h => by simp [ws,h]
  | r :: rs,[],w,_,h => by simp [ws,h]; omega
  | r :: rs,o :: os,w,hr,h => by
    have h1 := hr r (by simp)
    have h2 := ws_bound of rs os (if o = of then w + r else w) (fun x hx => hr x (by simp [hx])) (by split <;> omega)
    rw [ws]
    simp only [List.length_cons]
    split at h2 <;> rename_i hc
    · rw [if_pos hc]; omega
    · rw [if_neg hc]; omega
theorem wg_bound (of : Int) : ∀ (r o : List Int) (a : Int × Int),Ok20 r → 0 ≤ a.2 ∧ a.2 ≤ 20 → 0 ≤ (wg of r o a).2 ∧ (wg of r o a).2 ≤ 20
  | [],_,a,_,h => by simpa [wg] using h
  | r :: rs,[],a,_,h => by simpa [wg] using h
  | r :: rs,o :: os,a,hr,h => by
    have h1 := hr r (by simp)
    rw [wg]
    refine wg_bound of rs os _ (fun x hx => hr x (by simp [hx])) ?_
    by_cases hc : o = of
    · rw [if_pos hc]; dsimp only; split <;> omega
    · rw [if_neg hc]; exact h
theorem share_loop (nl ex nl' ex' : Bool) (sz sz' : Nat) (rs : List Row) (i : Nat) (hi : i < rs.length) (o : List Int) (ho : o.length = rs[i].l.length) (h20 : Ok20 rs[i].l) (hlen : o.length ≤ 100) (of : Int) (n : Nat) : ∀ (k : Nat) (w g : Int),k + n = o.length → 0 ≤ w → w ≤ 20 * k →
    exF LP share_division_share.L0 [(1,.int .i64 (i : Int)),(2,.int .i64 of),(3,.ptr 0 0 2),(6,.int .i64 w),(7,.int .i64 g),(11,IL nl' ex' sz' o),(12,.int .i64 (o.length : Int)),(13,.int .i64 (k : Int))] [⟨[VL nl ex sz rs,IL nl' ex' sz' o],true⟩] =
      some (.exit 0,[(6,.int .i64 (wg of (rs[i].l.drop k) (o.drop k) (w,g)).1),(7,.int .i64 (wg of (rs[i].l.drop k) (o.drop k) (w,g)).2)],[⟨[VL nl ex sz rs,IL nl' ex' sz' o],true⟩]) := by
  induction n with
  | zero =>
    intro k w g hk h0 h1
    rw [share_division_share.L0_eq]
    simp only [share_division_share.B0,beqT,beqF,exF_seq,exF_region,exF_block,exF_cond,exF_ret,exF_exit,exF_skip,runL,wantL,stepL,evL,evC,LEnv.at,putL,loadFine,loadL,cellsAt,Trk.putNew,Trk.up,Trk.touch,Trk.gives,Trk.calm,Trk.hit,opdsOf,Trk.fresh,LEnv.keep,LEnv.ofFrom,List.map_cons,List.map_nil,nbeq,nble,nblt,ofAV,ofAVs,lenL,bin_add,bin_sub,bin_mul,bin_eql,bin_neq,bin_lss,bin_leq,bin_gtr,bin_geq,natL_nat,natL_zero,natL_one,natL_two,Nat.zero_mul,List.any_cons,List.any_nil,Bool.or_false,Bool.false_or,Bool.true_or,Bool.or_true,Bool.and_true,Bool.true_and,Bool.and_false,Bool.false_and,Bool.not_true,Bool.not_false,Nat.reduceBEq,Nat.reduceEqDiff,decide_true,decide_false,cond_true,cond_false,List.filter_nil,List.filter_cons,Nat.reduceAdd,Nat.reduceLeDiff,reduceCtorEq,List.length_nil,List.length_cons,Nat.mul_one,if_true,if_false,Bool.false_eq_true,eq_self,and_true,true_and,retL,resultsL,resAllL,resOfL,List.append_nil,List.nil_append,List.cons_append,true_or,or_true,false_or,or_false,false_and,and_false,not_true_eq_false,not_false_eq_true,ne_eq,unL,trim_nil,views_pures,LV.pures,LV.pure,freeze,Nat.reduceDiv,Int.reduceEq,Int.reduceLT,Int.reduceLE,Int.natCast_zero,LV.cells,allocL,List.getElem?_cons_zero,List.getElem?_cons_succ,storeL,spliceL,List.take_zero,List.take_succ_cons,List.drop_zero,List.drop_succ_cons,List.drop_nil,List.take_nil,Nat.le_refl,Nat.reduceMul,List.set_cons_zero,List.set_cons_succ,LV.scalar,List.all_cons,List.all_nil,Nat.lt_add_one,Nat.zero_lt_one,Nat.reduceLT,Nat.lt_irrefl,fillL,List.length_append,foldIntL,kind_beq,pures_int,solids_int,plains_int,unders_int,scalars_int,show ¬ ((k : Int) < (o.length : Int)) by omega]
    simp [List.drop_eq_nil_of_le (show o.length ≤ k by omega),List.drop_eq_nil_of_le (show rs[i].l.length ≤ k by omega),wg]
  | succ n ih =>
    intro k w g hk h0 h1
    have h2 : k < o.length := by omega
    have h3 : k < rs[i].l.length := by omega
    have hx := h20.at k h3
    rw [share_division_share.L0_eq,List.drop_eq_getElem_cons h2,List.drop_eq_getElem_cons h3,wg]
    by_cases he : o[k] = of
    · have hw : IntKind.i64.wrap (w + rs[i].l[k]) = w + rs[i].l[k] := wrap_in (by omega)
      have ih := ih (k + 1) (w + rs[i].l[k]) (if rs[i].l[k] > g then rs[i].l[k] else g) (by omega) (by omega) (by omega)
      simp only [share_division_share.B0,beqT,beqF,exF_seq,exF_region,exF_block,exF_cond,exF_ret,exF_exit,exF_skip,runL,wantL,stepL,evL,evC,LEnv.at,putL,loadFine,loadL,cellsAt,Trk.putNew,Trk.up,Trk.touch,Trk.gives,Trk.calm,Trk.hit,opdsOf,Trk.fresh,LEnv.keep,LEnv.ofFrom,List.map_cons,List.map_nil,nbeq,nble,nblt,ofAV,ofAVs,lenL,bin_add,bin_sub,bin_mul,bin_eql,bin_neq,bin_lss,bin_leq,bin_gtr,bin_geq,natL_nat,natL_zero,natL_one,natL_two,Nat.zero_mul,List.any_cons,List.any_nil,Bool.or_false,Bool.false_or,Bool.true_or,Bool.or_true,Bool.and_true,Bool.true_and,Bool.and_false,Bool.false_and,Bool.not_true,Bool.not_false,Nat.reduceBEq,Nat.reduceEqDiff,decide_true,decide_false,cond_true,cond_false,List.filter_nil,List.filter_cons,Nat.reduceAdd,Nat.reduceLeDiff,reduceCtorEq,List.length_nil,List.length_cons,Nat.mul_one,if_true,if_false,Bool.false_eq_true,eq_self,and_true,true_and,retL,resultsL,resAllL,resOfL,List.append_nil,List.nil_append,List.cons_append,true_or,or_true,false_or,or_false,false_and,and_false,not_true_eq_false,not_false_eq_true,ne_eq,unL,trim_nil,views_pures,LV.pures,LV.pure,freeze,Nat.reduceDiv,Int.reduceEq,Int.reduceLT,Int.reduceLE,Int.natCast_zero,LV.cells,allocL,List.getElem?_cons_zero,List.getElem?_cons_succ,storeL,spliceL,List.take_zero,List.take_succ_cons,List.drop_zero,List.drop_succ_cons,List.drop_nil,List.take_nil,Nat.le_refl,Nat.reduceMul,List.set_cons_zero,List.set_cons_succ,LV.scalar,List.all_cons,List.all_nil,Nat.lt_add_one,Nat.zero_lt_one,Nat.reduceLT,Nat.lt_irrefl,fillL,List.length_append,foldIntL,kind_beq,pures_int,solids_int,plains_int,unders_int,scalars_int,show ((k : Int) < (o.length : Int)) by omega,h2,h3,hi,row_at _ _ hi,int_at _ _ _ h2,int_at _ _ _ h3,he,hw,wrap_succ (show k + 1 < 9223372036854775808 by omega),trim_le,ih]
    · have ih := ih (k + 1) w g (by omega) (by omega) (by omega)
      simp only [share_division_share.B0,beqT,beqF,exF_seq,exF_region,exF_block,exF_cond,exF_ret,exF_exit,exF_skip,runL,wantL,stepL,evL,evC,LEnv.at,putL,loadFine,loadL,cellsAt,Trk.putNew,Trk.up,Trk.touch,Trk.gives,Trk.calm,Trk.hit,opdsOf,Trk.fresh,LEnv.keep,LEnv.ofFrom,List.map_cons,List.map_nil,nbeq,nble,nblt,ofAV,ofAVs,lenL,bin_add,bin_sub,bin_mul,bin_eql,bin_neq,bin_lss,bin_leq,bin_gtr,bin_geq,natL_nat,natL_zero,natL_one,natL_two,Nat.zero_mul,List.any_cons,List.any_nil,Bool.or_false,Bool.false_or,Bool.true_or,Bool.or_true,Bool.and_true,Bool.true_and,Bool.and_false,Bool.false_and,Bool.not_true,Bool.not_false,Nat.reduceBEq,Nat.reduceEqDiff,decide_true,decide_false,cond_true,cond_false,List.filter_nil,List.filter_cons,Nat.reduceAdd,Nat.reduceLeDiff,reduceCtorEq,List.length_nil,List.length_cons,Nat.mul_one,if_true,if_false,Bool.false_eq_true,eq_self,and_true,true_and,retL,resultsL,resAllL,resOfL,List.append_nil,List.nil_append,List.cons_append,true_or,or_true,false_or,or_false,false_and,and_false,not_true_eq_false,not_false_eq_true,ne_eq,unL,trim_nil,views_pures,LV.pures,LV.pure,freeze,Nat.reduceDiv,Int.reduceEq,Int.reduceLT,Int.reduceLE,Int.natCast_zero,LV.cells,allocL,List.getElem?_cons_zero,List.getElem?_cons_succ,storeL,spliceL,List.take_zero,List.take_succ_cons,List.drop_zero,List.drop_succ_cons,List.drop_nil,List.take_nil,Nat.le_refl,Nat.reduceMul,List.set_cons_zero,List.set_cons_succ,LV.scalar,List.all_cons,List.all_nil,Nat.lt_add_one,Nat.zero_lt_one,Nat.reduceLT,Nat.lt_irrefl,fillL,List.length_append,foldIntL,kind_beq,pures_int,solids_int,plains_int,unders_int,scalars_int,show ((k : Int) < (o.length : Int)) by omega,h2,h3,hi,row_at _ _ hi,int_at _ _ _ h2,int_at _ _ _ h3,he,wrap_succ (show k + 1 < 9223372036854775808 by omega),trim_le,ih]
theorem share_c (nl ex nl' ex' : Bool) (sz sz' : Nat) (rs : List Row) (i : Nat) (hi : i < rs.length) (o : List Int) (ho : o.length = rs[i].l.length) (h20 : Ok20 rs[i].l) (hlen : o.length ≤ 100) (of : Int) (m : LMem) :
    clF LP n_share_division_share [.agg [VL nl ex sz rs,IL nl' ex' sz' o],.int .i64 (i : Int),.int .i64 of] m = some (.P,.tup [.int .i64 (wg of rs[i].l o (0,0)).1,.int .i64 (wg of rs[i].l o (0,0)).2],m) := by
  refine call_P lp_share_division_share rfl (by simp [LV.pures,LV.pure]) (m1 := [⟨[VL nl ex sz rs,IL nl' ex' sz' o],true⟩]) ?_ (by simp [LV.pures,LV.pure]) m
  have := share_loop nl ex nl' ex' sz sz' rs i hi o ho h20 hlen of o.length 0 0 0 (by omega) (by omega) (by omega)
  simp only [Int.natCast_zero,List.drop_zero] at this
  simp only [share_division_share,share_division_share.B,beqT,beqF,exF_seq,exF_region,exF_block,exF_cond,exF_ret,exF_exit,exF_skip,runL,wantL,stepL,evL,evC,LEnv.at,putL,loadFine,loadL,cellsAt,Trk.putNew,Trk.up,Trk.touch,Trk.gives,Trk.calm,Trk.hit,opdsOf,Trk.fresh,LEnv.keep,LEnv.ofFrom,List.map_cons,List.map_nil,nbeq,nble,nblt,ofAV,ofAVs,lenL,bin_add,bin_sub,bin_mul,bin_eql,bin_neq,bin_lss,bin_leq,bin_gtr,bin_geq,natL_nat,natL_zero,natL_one,natL_two,Nat.zero_mul,List.any_cons,List.any_nil,Bool.or_false,Bool.false_or,Bool.true_or,Bool.or_true,Bool.and_true,Bool.true_and,Bool.and_false,Bool.false_and,Bool.not_true,Bool.not_false,Nat.reduceBEq,Nat.reduceEqDiff,decide_true,decide_false,cond_true,cond_false,List.filter_nil,List.filter_cons,Nat.reduceAdd,Nat.reduceLeDiff,reduceCtorEq,List.length_nil,List.length_cons,Nat.mul_one,if_true,if_false,Bool.false_eq_true,eq_self,and_true,true_and,retL,resultsL,resAllL,resOfL,List.append_nil,List.nil_append,List.cons_append,true_or,or_true,false_or,or_false,false_and,and_false,not_true_eq_false,not_false_eq_true,ne_eq,unL,trim_nil,views_pures,LV.pures,LV.pure,freeze,Nat.reduceDiv,Int.reduceEq,Int.reduceLT,Int.reduceLE,Int.natCast_zero,LV.cells,allocL,List.getElem?_cons_zero,List.getElem?_cons_succ,storeL,spliceL,List.take_zero,List.take_succ_cons,List.drop_zero,List.drop_succ_cons,List.drop_nil,List.take_nil,Nat.le_refl,Nat.reduceMul,List.set_cons_zero,List.set_cons_succ,LV.scalar,List.all_cons,List.all_nil,Nat.lt_add_one,Nat.zero_lt_one,Nat.reduceLT,Nat.lt_irrefl,fillL,List.length_append,foldIntL,kind_beq,pures_int,solids_int,plains_int,unders_int,scalars_int,this]
def own (rs : List Row) (i : Nat) (hi : i < rs.length) (o : List Int) : Int := ws i rs[i].l o 0
theorem envy_c (nl ex nl' ex' : Bool) (sz sz' : Nat) (rs : List Row) (i : Nat) (hi : i < rs.length) (o : List Int) (ho : o.length = rs[i].l.length) (h20 : Ok20 rs[i].l) (hlen : o.length ≤ 100) (j : Nat) (m : LMem) :
    clF LP n_share_division_envy [.agg [VL nl ex sz rs,IL nl' ex' sz' o],.int .i64 (i : Int),.int .i64 (j : Int)] m =
      some (.P,.tup [.int .i64 ((wg j rs[i].l o (0,0)).1 - (wg i rs[i].l o (0,0)).1),.int .i64 ((wg j rs[i].l o (0,0)).1 - (wg j rs[i].l o (0,0)).2 - (wg i rs[i].l o (0,0)).1)],m) := by
  refine call_P lp_share_division_envy rfl (by simp [LV.pures,LV.pure]) (m1 := [⟨[VL nl ex sz rs,IL nl' ex' sz' o],true⟩]) ?_ (by simp [LV.pures,LV.pure]) m
  have b1 := ws_bound j rs[i].l o 0 h20 (by omega)
  have b2 := ws_bound i rs[i].l o 0 h20 (by omega)
  have b3 := wg_bound j rs[i].l o (0,0) h20 (by simp)
  have e1 := wg_ws j rs[i].l o (0,0)
  have e2 := wg_ws i rs[i].l o (0,0)
  simp only at e1 e2
  have s1 := share_c nl ex nl' ex' sz sz' rs i hi o ho h20 hlen i
  have s2 := share_c nl ex nl' ex' sz sz' rs i hi o ho h20 hlen j
  generalize wg (i : Int) rs[i].l o (0,0) = A at *
  generalize wg (j : Int) rs[i].l o (0,0) = B at *
  have w1 : IntKind.i64.wrap (B.1 - A.1) = B.1 - A.1 := wrap_in (by omega)
  have w2 : IntKind.i64.wrap (B.1 - B.2) = B.1 - B.2 := wrap_in (by omega)
  have w3 : IntKind.i64.wrap (B.1 - B.2 - A.1) = B.1 - B.2 - A.1 := wrap_in (by omega)
  simp only [share_division_envy,share_division_envy.B,beqT,beqF,exF_seq,exF_region,exF_block,exF_cond,exF_ret,exF_exit,exF_skip,runL,wantL,stepL,evL,evC,LEnv.at,putL,loadFine,loadL,cellsAt,Trk.putNew,Trk.up,Trk.touch,Trk.gives,Trk.calm,Trk.hit,opdsOf,Trk.fresh,LEnv.keep,LEnv.ofFrom,List.map_cons,List.map_nil,nbeq,nble,nblt,ofAV,ofAVs,lenL,bin_add,bin_sub,bin_mul,bin_eql,bin_neq,bin_lss,bin_leq,bin_gtr,bin_geq,natL_nat,natL_zero,natL_one,natL_two,Nat.zero_mul,List.any_cons,List.any_nil,Bool.or_false,Bool.false_or,Bool.true_or,Bool.or_true,Bool.and_true,Bool.true_and,Bool.and_false,Bool.false_and,Bool.not_true,Bool.not_false,Nat.reduceBEq,Nat.reduceEqDiff,decide_true,decide_false,cond_true,cond_false,List.filter_nil,List.filter_cons,Nat.reduceAdd,Nat.reduceLeDiff,reduceCtorEq,List.length_nil,List.length_cons,Nat.mul_one,if_true,if_false,Bool.false_eq_true,eq_self,and_true,true_and,retL,resultsL,resAllL,resOfL,List.append_nil,List.nil_append,List.cons_append,true_or,or_true,false_or,or_false,false_and,and_false,not_true_eq_false,not_false_eq_true,ne_eq,unL,trim_nil,views_pures,LV.pures,LV.pure,freeze,Nat.reduceDiv,Int.reduceEq,Int.reduceLT,Int.reduceLE,Int.natCast_zero,LV.cells,allocL,List.getElem?_cons_zero,List.getElem?_cons_succ,storeL,spliceL,List.take_zero,List.take_succ_cons,List.drop_zero,List.drop_succ_cons,List.drop_nil,List.take_nil,Nat.le_refl,Nat.reduceMul,List.set_cons_zero,List.set_cons_succ,LV.scalar,List.all_cons,List.all_nil,Nat.lt_add_one,Nat.zero_lt_one,Nat.reduceLT,Nat.lt_irrefl,fillL,List.length_append,foldIntL,kind_beq,pures_int,solids_int,plains_int,unders_int,scalars_int,s1,s2,w1,w2,w3]
end Go.Am.Share
set_option linter.unusedVariables false
set_option linter.unusedSimpArgs false
set_option maxRecDepth 10000
namespace Go.Am.Share
def divE (vs : List (List Int)) (o : List Int) : Int :=
  if chkV vs ≠ 0 then chkV vs else if o.length ≠ (vs.getD 0 []).length then 5 else if o.any (fun x => !inB 0 ((vs.length : Int) - 1) x) then 2 else 0
theorem rowsChk_ok {n0 : Nat} : ∀ {vs : List (List Int)},rowsChk n0 vs = 0 → ∀ r ∈ vs,r.length = n0 ∧ Ok20 r
  | [],_,r,h => by simp at h
  | v :: vs,h,r,hr => by
    rw [rowsChk] at h
    split at h
    · omega
    · rename_i h1
      split at h
      · omega
      · rename_i h2
        rcases List.mem_cons.1 hr with rfl | hr
        · refine ⟨by simpa using h1,fun x hx => ?_⟩
          simp only [List.any_eq_true,not_exists,not_and,Bool.not_eq_true',Bool.not_eq_false] at h2
          have := h2 x hx
          simpa [inB] using this
        · exact rowsChk_ok h r hr
theorem chkV_ok {vs : List (List Int)} (h : chkV vs = 0) : 0 < vs.length ∧ vs.length ≤ 4 ∧ (vs.getD 0 []).length ≤ 6 ∧ ∀ r ∈ vs,r.length = (vs.getD 0 []).length ∧ Ok20 r := by
  unfold chkV at h
  split at h
  · omega
  · rename_i h1
    split at h
    · omega
    · rename_i h2
      exact ⟨by omega,by omega,by omega,rowsChk_ok h⟩
theorem opened1_c (nl ex : Bool) (sz : Nat) (rs : List Row) (hl : 0 < rs.length ∧ rs.length < 1000000) (x : Int) (m : LMem) : clF LP n_share_opened_1 [.int .i64 x,.elt [VL nl ex sz rs] 0] m = some (.P,.bool (!inB 0 ((rs.length : Int) - 1) x),m) := by
  refine call_P lp_share_opened_1 rfl (by simp [LV.pures,LV.pure]) (m1 := []) ?_ rfl m
  have hw : IntKind.i64.wrap ((rs.length : Int) - 1) = (rs.length : Int) - 1 := wrap_in (by omega)
  simp only [share_opened_1,share_opened_1.B,beqT,beqF,exF_seq,exF_region,exF_block,exF_cond,exF_ret,exF_exit,exF_skip,runL,wantL,stepL,evL,evC,LEnv.at,putL,loadFine,loadL,cellsAt,Trk.putNew,Trk.up,Trk.touch,Trk.gives,Trk.calm,Trk.hit,opdsOf,Trk.fresh,LEnv.keep,LEnv.ofFrom,List.map_cons,List.map_nil,nbeq,nble,nblt,ofAV,ofAVs,lenL,bin_add,bin_sub,bin_mul,bin_eql,bin_neq,bin_lss,bin_leq,bin_gtr,bin_geq,natL_nat,natL_zero,natL_one,natL_two,Nat.zero_mul,List.any_cons,List.any_nil,Bool.or_false,Bool.false_or,Bool.true_or,Bool.or_true,Bool.and_true,Bool.true_and,Bool.and_false,Bool.false_and,Bool.not_true,Bool.not_false,Nat.reduceBEq,Nat.reduceEqDiff,decide_true,decide_false,cond_true,cond_false,List.filter_nil,List.filter_cons,Nat.reduceAdd,Nat.reduceLeDiff,reduceCtorEq,List.length_nil,List.length_cons,Nat.mul_one,if_true,if_false,Bool.false_eq_true,eq_self,and_true,true_and,retL,resultsL,resAllL,resOfL,List.append_nil,List.nil_append,List.cons_append,true_or,or_true,false_or,or_false,false_and,and_false,not_true_eq_false,not_false_eq_true,ne_eq,unL,trim_nil,views_pures,LV.pures,LV.pure,freeze,Nat.reduceDiv,Int.reduceEq,Int.reduceLT,Int.reduceLE,Int.natCast_zero,LV.cells,allocL,List.getElem?_cons_zero,List.getElem?_cons_succ,storeL,spliceL,List.take_zero,List.take_succ_cons,List.drop_zero,List.drop_succ_cons,List.drop_nil,List.take_nil,Nat.le_refl,Nat.reduceMul,List.set_cons_zero,List.set_cons_succ,LV.scalar,List.all_cons,List.all_nil,Nat.lt_add_one,Nat.zero_lt_one,Nat.reduceLT,Nat.lt_irrefl,fillL,List.length_append,foldIntL,kind_beq,pures_int,solids_int,plains_int,unders_int,scalars_int,hw,within_c]
theorem clone_c (nl ex : Bool) (sz : Nat) (l : List Int) (hl : l.length < 1000000) (m : LMem) (hsz : l = [] ∨ sz = 1) (hnl : nl = true → l = []) : clF LP n_slices_Clone_int_int [IL nl ex sz l] m =
    if l = [] then some (.O,.lst nl true 0 0 [],m) else some (.O,.sl m.length 0 l.length l.length 1 1 l.length,m ++ [⟨l.map (LV.int .i64),true⟩]) := by
  rw [clF_eq,lp_slices_Clone_int_int]
  simp only [callMode,slices_Clone_int_int,views_pures m [IL nl ex sz l] (by simp [LV.pures,LV.pure])]
  cases nl with
  | true =>
    obtain rfl := hnl rfl
    simp only [slices_Clone_int_int.B,beqT,beqF,exF_seq,exF_region,exF_block,exF_cond,exF_ret,exF_exit,exF_skip,runL,wantL,stepL,evL,evC,LEnv.at,putL,loadFine,loadL,cellsAt,Trk.putNew,Trk.up,Trk.touch,Trk.gives,Trk.calm,Trk.hit,opdsOf,Trk.fresh,LEnv.keep,LEnv.ofFrom,List.map_cons,List.map_nil,nbeq,nble,nblt,ofAV,ofAVs,lenL,bin_add,bin_sub,bin_mul,bin_eql,bin_neq,bin_lss,bin_leq,bin_gtr,bin_geq,natL_nat,natL_zero,natL_one,natL_two,Nat.zero_mul,List.any_cons,List.any_nil,Bool.or_false,Bool.false_or,Bool.true_or,Bool.or_true,Bool.and_true,Bool.true_and,Bool.and_false,Bool.false_and,Bool.not_true,Bool.not_false,Nat.reduceBEq,Nat.reduceEqDiff,decide_true,decide_false,cond_true,cond_false,List.filter_nil,List.filter_cons,Nat.reduceAdd,Nat.reduceLeDiff,reduceCtorEq,List.length_nil,List.length_cons,Nat.mul_one,if_true,if_false,Bool.false_eq_true,eq_self,and_true,true_and,retL,resultsL,resAllL,resOfL,List.append_nil,List.nil_append,List.cons_append,true_or,or_true,false_or,or_false,false_and,and_false,not_true_eq_false,not_false_eq_true,ne_eq,unL,trim_nil,views_pures,LV.pures,LV.pure,freeze,Nat.reduceDiv,Int.reduceEq,Int.reduceLT,Int.reduceLE,Int.natCast_zero,LV.cells,allocL,List.getElem?_cons_zero,List.getElem?_cons_succ,storeL,spliceL,List.take_zero,List.take_succ_cons,List.drop_zero,List.drop_succ_cons,List.drop_nil,List.take_nil,Nat.le_refl,Nat.reduceMul,List.set_cons_zero,List.set_cons_succ,LV.scalar,List.all_cons,List.all_nil,Nat.lt_add_one,Nat.zero_lt_one,Nat.reduceLT,Nat.lt_irrefl,fillL,List.length_append,foldIntL,kind_beq,pures_int,solids_int,plains_int,unders_int,scalars_int,nilOf,eqsL,Bool.xor_false,Bool.false_xor,Bool.xor_true,LV.shift,newOnly,LV.solid,freeze]
  | false =>
    by_cases h : l = []
    · subst h
      simp only [slices_Clone_int_int.B,beqT,beqF,exF_seq,exF_region,exF_block,exF_cond,exF_ret,exF_exit,exF_skip,runL,wantL,stepL,evL,evC,LEnv.at,putL,loadFine,loadL,cellsAt,Trk.putNew,Trk.up,Trk.touch,Trk.gives,Trk.calm,Trk.hit,opdsOf,Trk.fresh,LEnv.keep,LEnv.ofFrom,List.map_cons,List.map_nil,nbeq,nble,nblt,ofAV,ofAVs,lenL,bin_add,bin_sub,bin_mul,bin_eql,bin_neq,bin_lss,bin_leq,bin_gtr,bin_geq,natL_nat,natL_zero,natL_one,natL_two,Nat.zero_mul,List.any_cons,List.any_nil,Bool.or_false,Bool.false_or,Bool.true_or,Bool.or_true,Bool.and_true,Bool.true_and,Bool.and_false,Bool.false_and,Bool.not_true,Bool.not_false,Nat.reduceBEq,Nat.reduceEqDiff,decide_true,decide_false,cond_true,cond_false,List.filter_nil,List.filter_cons,Nat.reduceAdd,Nat.reduceLeDiff,reduceCtorEq,List.length_nil,List.length_cons,Nat.mul_one,if_true,if_false,Bool.false_eq_true,eq_self,and_true,true_and,retL,resultsL,resAllL,resOfL,List.append_nil,List.nil_append,List.cons_append,true_or,or_true,false_or,or_false,false_and,and_false,not_true_eq_false,not_false_eq_true,ne_eq,unL,trim_nil,views_pures,LV.pures,LV.pure,freeze,Nat.reduceDiv,Int.reduceEq,Int.reduceLT,Int.reduceLE,Int.natCast_zero,LV.cells,allocL,List.getElem?_cons_zero,List.getElem?_cons_succ,storeL,spliceL,List.take_zero,List.take_succ_cons,List.drop_zero,List.drop_succ_cons,List.drop_nil,List.take_nil,Nat.le_refl,Nat.reduceMul,List.set_cons_zero,List.set_cons_succ,LV.scalar,List.all_cons,List.all_nil,Nat.lt_add_one,Nat.zero_lt_one,Nat.reduceLT,Nat.lt_irrefl,fillL,List.length_append,foldIntL,kind_beq,pures_int,solids_int,plains_int,unders_int,scalars_int,nilOf,eqsL,Bool.xor_false,Bool.false_xor,Bool.xor_true,LV.shift,newOnly,LV.solid,freeze,appendL,contents,views,viewL]
    · obtain rfl : sz = 1 := by rcases hsz with c | c; exact absurd c h; exact c
      have h0 : ¬ l.length = 0 := by simpa using h
      have hr1 : l.length * 8 ≤ roomMost := by unfold roomMost; omega
      have hr2 : l.length ≤ roomMost := by unfold roomMost; omega
      simp only [slices_Clone_int_int.B,beqT,beqF,exF_seq,exF_region,exF_block,exF_cond,exF_ret,exF_exit,exF_skip,runL,wantL,stepL,evL,evC,LEnv.at,putL,loadFine,loadL,cellsAt,Trk.putNew,Trk.up,Trk.touch,Trk.gives,Trk.calm,Trk.hit,opdsOf,Trk.fresh,LEnv.keep,LEnv.ofFrom,List.map_cons,List.map_nil,nbeq,nble,nblt,ofAV,ofAVs,lenL,bin_add,bin_sub,bin_mul,bin_eql,bin_neq,bin_lss,bin_leq,bin_gtr,bin_geq,natL_nat,natL_zero,natL_one,natL_two,Nat.zero_mul,List.any_cons,List.any_nil,Bool.or_false,Bool.false_or,Bool.true_or,Bool.or_true,Bool.and_true,Bool.true_and,Bool.and_false,Bool.false_and,Bool.not_true,Bool.not_false,Nat.reduceBEq,Nat.reduceEqDiff,decide_true,decide_false,cond_true,cond_false,List.filter_nil,List.filter_cons,Nat.reduceAdd,Nat.reduceLeDiff,reduceCtorEq,List.length_nil,List.length_cons,Nat.mul_one,if_true,if_false,Bool.false_eq_true,eq_self,and_true,true_and,retL,resultsL,resAllL,resOfL,List.append_nil,List.nil_append,List.cons_append,true_or,or_true,false_or,or_false,false_and,and_false,not_true_eq_false,not_false_eq_true,ne_eq,unL,trim_nil,views_pures,LV.pures,LV.pure,freeze,Nat.reduceDiv,Int.reduceEq,Int.reduceLT,Int.reduceLE,Int.natCast_zero,LV.cells,allocL,List.getElem?_cons_zero,List.getElem?_cons_succ,storeL,spliceL,List.take_zero,List.take_succ_cons,List.drop_zero,List.drop_succ_cons,List.drop_nil,List.take_nil,Nat.le_refl,Nat.reduceMul,List.set_cons_zero,List.set_cons_succ,LV.scalar,List.all_cons,List.all_nil,Nat.lt_add_one,Nat.zero_lt_one,Nat.reduceLT,Nat.lt_irrefl,fillL,List.length_append,foldIntL,kind_beq,pures_int,solids_int,plains_int,unders_int,scalars_int,nilOf,eqsL,Bool.xor_false,Bool.false_xor,Bool.xor_true,LV.shift,newOnly,LV.solid,freeze,appendL,contents,views,viewL,h0,hr1,hr2,newSl,Nat.zero_add,shifts_int,h]
end Go.Am.Share
