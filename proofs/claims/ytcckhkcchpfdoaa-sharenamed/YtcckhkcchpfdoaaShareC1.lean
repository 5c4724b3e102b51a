import Derived.Test.YtcckhkcchpfdoaaShareL
import Derived.Test.YtcckhkcchpfdoaaLm10
set_option linter.unusedVariables false
set_option linter.unusedSimpArgs false
set_option maxRecDepth 10000
namespace Go.Am
structure Row where
  nl : Bool
  ex : Bool
  sz : Nat
  l : List Int
abbrev Row.lv (r : Row) : LV := IL r.nl r.ex r.sz r.l
abbrev VL (nl ex : Bool) (sz : Nat) (rs : List Row) : LV := .lst nl ex sz rs.length (rs.map Row.lv)
theorem row_at (rs : List Row) (i : Nat) (h : i < rs.length) : (rs.map Row.lv)[i]? = some (rs[i].lv) := by rw [List.getElem?_map,List.getElem?_eq_getElem h]; rfl
namespace Share
def inB (lo hi x : Int) : Bool := decide (lo ≤ x ∧ x ≤ hi)
def rowsChk (n0 : Nat) : List (List Int) → Int
  | [] => 0
  | r :: rs => if r.length ≠ n0 then 5 else if r.any (fun x => !inB 0 20 x) then 1 else rowsChk n0 rs
def chkV (vs : List (List Int)) : Int :=
  if vs.length = 0 then 4 else if 4 < vs.length ∨ 6 < (vs.getD 0 []).length then 3 else rowsChk (vs.getD 0 []).length vs
def vals (rs : List Row) : List (List Int) := rs.map (·.l)
theorem within_c (n lo hi : Int) (m : LMem) : clF LP n_share_within [.int .i64 n,.int .i64 lo,.int .i64 hi] m = some (.P,.bool (inB lo hi n),m) := by
  refine call_P lp_share_within rfl rfl (m1 := []) ?_ rfl m
  by_cases h : lo ≤ n
  · simp only [share_within,share_within.B,beqT,exF_seq,exF_region,exF_ret,runL,wantL,stepL,evL,evC,LEnv.at,putL,loadFine,LEnv.keep,LEnv.ofFrom,List.map_cons,List.map_nil,nbeq,bin_leq,Nat.reduceEqDiff,decide_true,decide_false,cond_true,cond_false,Nat.reduceAdd,reduceCtorEq,eq_self,true_and,retL,resultsL,resAllL,resOfL,h,inB]
  · simp only [share_within,share_within.B,beqT,exF_seq,exF_region,exF_ret,runL,wantL,stepL,evL,evC,LEnv.at,putL,loadFine,LEnv.keep,LEnv.ofFrom,List.map_cons,List.map_nil,nbeq,bin_leq,Nat.reduceEqDiff,decide_true,decide_false,cond_true,cond_false,Nat.reduceAdd,reduceCtorEq,eq_self,retL,resultsL,resAllL,resOfL,false_and,h,inB]
theorem check1_c (x : Int) (m : LMem) : clF LP n_share_Check_1 [.int .i64 x] m = some (.P,.bool (!inB 0 20 x),m) := by
  refine call_P lp_share_Check_1 rfl rfl (m1 := []) ?_ rfl m
  simp only [share_Check_1,share_Check_1.B,exF_seq,exF_region,exF_ret,runL,wantL,stepL,evL,evC,LEnv.at,putL,loadFine,LEnv.keep,LEnv.ofFrom,List.map_cons,List.map_nil,nbeq,ofAVs,Nat.reduceEqDiff,decide_true,decide_false,cond_true,cond_false,reduceCtorEq,eq_self,retL,resultsL,resAllL,resOfL,List.append_nil,List.nil_append,unL,within_c]
theorem some_loop (g : Nat) (first cap : List LV) (p : Int → Bool) (nl ex : Bool) (sz : Nat) (l : List Int) (hl : l.length < 1000000) (hg : ∀ x m,clF LP g (first ++ ([.int .i64 x] ++ cap)) m = some (.P,.bool (p x),m)) (n : Nat) : ∀ k,k + n = l.length →
    exF LP share_some_int.L0 [(0,.func g first cap),(7,IL nl ex sz l),(8,.int .i64 (l.length : Int)),(9,.int .i64 (k : Int))] [] = if (l.drop k).any p then some (.ret,[(4,.bool true)],[]) else some (.exit 0,[],[]) := by
  induction n with
  | zero =>
    intro k hk
    rw [share_some_int.L0_eq]
    simp only [share_some_int.B0,exF_seq,exF_region,exF_cond,exF_exit,runL,wantL,stepL,evL,LEnv.at,putL,loadFine,LEnv.keep,List.map_cons,List.map_nil,nbeq,bin_lss,Nat.reduceEqDiff,decide_true,decide_false,cond_true,cond_false,reduceCtorEq,eq_self,show ¬ ((k : Int) < (l.length : Int)) by omega]
    simp [List.drop_eq_nil_of_le (show l.length ≤ k by omega)]
  | succ n ih =>
    intro k hk
    have h2 : k < l.length := by omega
    rw [share_some_int.L0_eq,List.drop_eq_getElem_cons h2]
    have hg' := fun x m => hg x m
    simp only [List.cons_append,List.nil_append] at hg'
    cases he : p l[k]
    · simp only [share_some_int.B0,exF_seq,exF_region,exF_block,exF_cond,exF_skip,runL,wantL,stepL,evL,evC,LEnv.at,putL,loadFine,loadL,cellsAt,Trk.putNew,Trk.up,Trk.touch,Trk.gives,Trk.calm,opdsOf,Trk.fresh,LEnv.keep,List.map_cons,List.map_nil,nbeq,nble,nblt,bin_add,bin_lss,natL_nat,List.any_cons,List.any_nil,Bool.or_false,Bool.false_or,Bool.or_true,Bool.and_true,Bool.false_and,Bool.not_true,Bool.not_false,Nat.reduceEqDiff,decide_true,decide_false,cond_true,cond_false,List.filter_nil,Nat.reduceAdd,Nat.reduceLeDiff,reduceCtorEq,List.length_nil,Nat.mul_one,eq_self,List.nil_append,List.cons_append,show ((k : Int) < (l.length : Int)) by omega,h2,int_at _ _ _ h2,he,hg',wrap_succ (show k + 1 < 9223372036854775808 by omega),ih (k + 1) (by omega),List.any_cons]
    · simp only [share_some_int.B0,exF_seq,exF_region,exF_block,exF_cond,exF_ret,exF_skip,runL,wantL,stepL,evL,evC,LEnv.at,putL,loadFine,loadL,cellsAt,Trk.putNew,Trk.up,Trk.touch,Trk.gives,Trk.calm,opdsOf,Trk.fresh,LEnv.keep,List.map_cons,List.map_nil,nbeq,nble,nblt,bin_lss,natL_nat,List.any_cons,List.any_nil,Bool.or_false,Bool.true_or,Bool.or_true,Bool.and_true,Bool.false_and,Bool.not_true,Bool.not_false,Nat.reduceEqDiff,decide_true,decide_false,cond_true,cond_false,List.filter_nil,Nat.reduceAdd,Nat.reduceLeDiff,reduceCtorEq,List.length_nil,Nat.mul_one,if_true,eq_self,List.nil_append,List.cons_append,show ((k : Int) < (l.length : Int)) by omega,h2,int_at _ _ _ h2,he,hg',List.any_cons]
theorem some_c (g : Nat) (first cap : List LV) (hp : LV.pures first = true ∧ LV.pures cap = true) (p : Int → Bool) (nl ex : Bool) (sz : Nat) (l : List Int) (hl : l.length < 1000000) (hg : ∀ x m,clF LP g (first ++ ([.int .i64 x] ++ cap)) m = some (.P,.bool (p x),m)) (m : LMem) :
    clF LP n_share_some_int [.func g first cap,IL nl ex sz l] m = some (.P,.bool (l.any p),m) := by
  refine call_P lp_share_some_int rfl (by simp [LV.pures,LV.pure,hp]) (m1 := []) ?_ rfl m
  have := some_loop g first cap p nl ex sz l hl hg l.length 0 (by omega)
  simp only [Int.natCast_zero,List.drop_zero] at this
  simp only [share_some_int,share_some_int.B,exF_seq,exF_region,exF_block,exF_ret,runL,wantL,stepL,evL,evC,LEnv.at,putL,loadFine,LEnv.keep,LEnv.ofFrom,List.map_cons,List.map_nil,nbeq,lenL,Nat.reduceEqDiff,decide_true,decide_false,cond_true,cond_false,Nat.reduceAdd,reduceCtorEq,eq_self,retL,resultsL,resAllL,resOfL,this]
  cases l.any p <;> simp only [LEnv.at,nbeq,decide_true,cond_true,if_true,if_false,Bool.false_eq_true,eq_self]
theorem check_loop (nl ex : Bool) (sz : Nat) (rs : List Row) (h0 : 0 < rs.length) (hl : rs.length < 1000000) (hr : ∀ r ∈ rs,r.l.length < 1000000) (n : Nat) : ∀ k,k + n = rs.length →
    exF LP share_Check.L0 [(0,VL nl ex sz rs),(20,VL nl ex sz rs),(21,.int .i64 (rs.length : Int)),(22,.int .i64 (k : Int))] [] =
      if rowsChk rs[0].l.length (vals (rs.drop k)) = 0 then some (.exit 1,[],[]) else some (.ret,[(2,.int .i64 (rowsChk rs[0].l.length (vals (rs.drop k))))],[]) := by
  induction n with
  | zero =>
    intro k hk
    rw [share_Check.L0_eq]
    simp only [share_Check.B0,exF_seq,exF_region,exF_cond,exF_exit,runL,wantL,stepL,evL,LEnv.at,putL,loadFine,LEnv.keep,List.map_cons,List.map_nil,nbeq,bin_lss,Nat.reduceEqDiff,decide_true,decide_false,cond_true,cond_false,reduceCtorEq,eq_self,show ¬ ((k : Int) < (rs.length : Int)) by omega]
    simp [List.drop_eq_nil_of_le (show rs.length ≤ k by omega),vals,rowsChk]
  | succ n ih =>
    intro k hk
    have h2 : k < rs.length := by omega
    rw [share_Check.L0_eq,List.drop_eq_getElem_cons h2]
    simp only [vals,List.map_cons,rowsChk]
    by_cases he : rs[k].l.length = rs[0].l.length
    · have he' : ((rs[k].l.length : Int) = rs[0].l.length) := by omega
      have hs := some_c n_share_Check_1 [] [] ⟨rfl,rfl⟩ (fun x => !inB 0 20 x) rs[k].nl rs[k].ex rs[k].sz rs[k].l (hr _ (List.getElem_mem h2)) (fun x m => check1_c x m) []
      cases ha : rs[k].l.any fun x => !inB 0 20 x
      · rw [ha] at hs
        simp only [share_Check.B0,exF_seq,exF_region,exF_block,exF_cond,exF_skip,runL,wantL,stepL,evL,evC,LEnv.at,putL,loadFine,loadL,cellsAt,Trk.putNew,Trk.up,Trk.touch,Trk.gives,Trk.calm,opdsOf,Trk.fresh,LEnv.keep,List.map_cons,List.map_nil,nbeq,nble,nblt,ofAVs,lenL,bin_add,bin_neq,bin_lss,natL_nat,natL_zero,List.any_cons,List.any_nil,Bool.or_false,Bool.or_true,Bool.and_true,Bool.false_and,Bool.not_true,Bool.not_false,Nat.reduceEqDiff,decide_true,decide_false,cond_true,cond_false,List.filter_nil,Nat.reduceAdd,Nat.reduceLeDiff,reduceCtorEq,List.length_nil,Nat.mul_one,if_false,Bool.false_eq_true,eq_self,List.append_nil,List.nil_append,not_true_eq_false,ne_eq,List.drop_zero,show ((k : Int) < (rs.length : Int)) by omega,h2,h0,row_at _ _ h2,row_at _ _ h0,he,hs,wrap_succ (show k + 1 < 9223372036854775808 by omega),ih (k + 1) (by omega)]
        rfl
      · rw [ha] at hs
        simp only [share_Check.B0,exF_seq,exF_region,exF_block,exF_cond,exF_ret,exF_skip,runL,wantL,stepL,evL,evC,LEnv.at,putL,loadFine,loadL,cellsAt,Trk.putNew,Trk.up,Trk.touch,Trk.gives,Trk.calm,opdsOf,Trk.fresh,LEnv.keep,List.map_cons,List.map_nil,nbeq,nble,nblt,ofAVs,lenL,bin_neq,bin_lss,natL_nat,natL_zero,List.any_cons,List.any_nil,Bool.or_false,Bool.or_true,Bool.and_true,Bool.false_and,Bool.not_true,Bool.not_false,Nat.reduceEqDiff,decide_true,decide_false,cond_true,cond_false,List.filter_nil,Nat.reduceAdd,Nat.reduceLeDiff,reduceCtorEq,List.length_nil,Nat.mul_one,if_true,if_false,eq_self,List.append_nil,List.nil_append,not_true_eq_false,ne_eq,Int.reduceEq,List.drop_zero,show ((k : Int) < (rs.length : Int)) by omega,h2,h0,row_at _ _ h2,row_at _ _ h0,he,hs]
        try simp
    · have he' : ¬ ((rs[k].l.length : Int) = rs[0].l.length) := by omega
      simp only [share_Check.B0,exF_seq,exF_region,exF_block,exF_cond,exF_ret,exF_skip,runL,wantL,stepL,evL,evC,LEnv.at,putL,loadFine,loadL,cellsAt,Trk.putNew,Trk.up,Trk.touch,Trk.gives,Trk.calm,opdsOf,Trk.fresh,LEnv.keep,List.map_cons,List.map_nil,nbeq,nble,nblt,lenL,bin_neq,bin_lss,natL_nat,natL_zero,List.any_cons,List.any_nil,Bool.or_false,Bool.or_true,Bool.and_true,Bool.false_and,Bool.not_true,Bool.not_false,Nat.reduceEqDiff,decide_true,decide_false,cond_true,cond_false,List.filter_nil,Nat.reduceAdd,Nat.reduceLeDiff,reduceCtorEq,List.length_nil,Nat.mul_one,if_true,if_false,eq_self,not_false_eq_true,ne_eq,Int.reduceEq,List.drop_zero,show ((k : Int) < (rs.length : Int)) by omega,h2,h0,row_at _ _ h2,row_at _ _ h0,he',he]
      try simp
end Share
end Go.Am
set_option linter.unusedVariables false
set_option linter.unusedSimpArgs false
set_option maxRecDepth 10000
namespace Go.Am.Share
theorem vals_length (rs : List Row) : (vals rs).length = rs.length := by simp [vals]
theorem check_c (nl ex : Bool) (sz : Nat) (rs : List Row) (hl : rs.length < 1000000) (hr : ∀ r ∈ rs,r.l.length < 1000000) (m : LMem) : clF LP n_share_Check [VL nl ex sz rs] m = some (.P,.int .i64 (chkV (vals rs)),m) := by
  refine call_P lp_share_Check rfl (by simp [LV.pures,LV.pure]) (m1 := []) ?_ rfl m
  unfold chkV
  rw [vals_length]
  by_cases h0 : rs.length = 0
  · have h1 : ((rs.length : Nat) : Int) = 0 := by omega
    simp only [share_Check,share_Check.B,exF_seq,exF_region,exF_block,exF_cond,exF_ret,runL,wantL,stepL,evL,evC,LEnv.at,putL,loadFine,LEnv.keep,LEnv.ofFrom,List.map_cons,List.map_nil,nbeq,lenL,bin_eql,Nat.reduceEqDiff,decide_true,decide_false,cond_true,cond_false,reduceCtorEq,if_true,eq_self,retL,resultsL,resAllL,resOfL,false_or,Int.natCast_zero,Nat.reduceLT,h0,Int.natCast_zero]
  · have h1 : ¬ ((rs.length : Nat) : Int) = 0 := by omega
    have h3 : 0 < rs.length := by omega
    have hv : (vals rs).getD 0 [] = rs[0].l := by simp [vals,List.getD_eq_getElem?_getD,List.getElem?_eq_getElem h3]
    rw [hv,if_neg h0]
    by_cases h2 : 4 < rs.length
    · have h2' : (4 : Int) < ((rs.length : Nat) : Int) := by omega
      simp only [share_Check,share_Check.B,beqF,exF_seq,exF_region,exF_block,exF_cond,exF_ret,runL,wantL,stepL,evL,evC,LEnv.at,putL,loadFine,LEnv.keep,LEnv.ofFrom,List.map_cons,List.map_nil,nbeq,lenL,bin_eql,bin_gtr,Bool.not_true,Nat.reduceEqDiff,decide_true,decide_false,cond_true,cond_false,reduceCtorEq,if_true,eq_self,retL,resultsL,resAllL,resOfL,true_or,h1,h2',h2]
    · have h2' : ¬ (4 : Int) < ((rs.length : Nat) : Int) := by omega
      by_cases h4 : 6 < rs[0].l.length
      · have h4' : (6 : Int) < ((rs[0].l.length : Nat) : Int) := by omega
        simp only [share_Check,share_Check.B,beqF,exF_seq,exF_region,exF_block,exF_cond,exF_ret,runL,wantL,stepL,evL,evC,LEnv.at,putL,loadFine,loadL,cellsAt,Trk.putNew,Trk.up,Trk.touch,Trk.gives,Trk.calm,opdsOf,Trk.fresh,LEnv.keep,LEnv.ofFrom,List.map_cons,List.map_nil,nbeq,nble,nblt,lenL,bin_eql,bin_gtr,natL_zero,List.any_cons,List.any_nil,Bool.or_false,Bool.or_true,Bool.and_true,Bool.false_and,Bool.not_true,Bool.not_false,Nat.reduceEqDiff,decide_true,decide_false,cond_true,cond_false,List.filter_nil,Nat.reduceAdd,Nat.reduceLeDiff,reduceCtorEq,List.length_nil,Nat.mul_one,if_true,eq_self,retL,resultsL,resAllL,resOfL,or_true,List.drop_zero,h1,h2',h3,row_at _ _ h3,h4',h2,h4]
      · have h4' : ¬ (6 : Int) < ((rs[0].l.length : Nat) : Int) := by omega
        have hloop := check_loop nl ex sz rs h3 hl hr rs.length 0 (by omega)
        simp only [Int.natCast_zero,List.drop_zero] at hloop
        simp only [share_Check,share_Check.B,beqF,exF_seq,exF_region,exF_block,exF_cond,exF_ret,exF_skip,runL,wantL,stepL,evL,evC,LEnv.at,putL,loadFine,loadL,cellsAt,Trk.putNew,Trk.up,Trk.touch,Trk.gives,Trk.calm,opdsOf,Trk.fresh,LEnv.keep,LEnv.ofFrom,List.map_cons,List.map_nil,nbeq,nble,nblt,lenL,bin_eql,bin_gtr,natL_zero,List.any_cons,List.any_nil,Bool.or_false,Bool.or_true,Bool.and_true,Bool.false_and,Bool.not_true,Bool.not_false,Nat.reduceEqDiff,decide_true,decide_false,cond_true,cond_false,List.filter_nil,Nat.reduceAdd,Nat.reduceLeDiff,reduceCtorEq,List.length_nil,Nat.mul_one,if_false,eq_self,retL,resultsL,resAllL,resOfL,or_false,List.drop_zero,h1,h2',h3,row_at _ _ h3,h4',hloop,h2,h4]
        by_cases h5 : rowsChk rs[0].l.length (vals rs) = 0
        · simp only [h5,LEnv.at,nbeq,decide_true,cond_true,if_true,eq_self]
        · simp only [h5,LEnv.at,nbeq,decide_true,cond_true,if_false,eq_self]
end Go.Am.Share
set_option linter.unusedVariables false
set_option linter.unusedSimpArgs false
set_option maxRecDepth 10000
namespace Go.Am.Share
def wg (of : Int) : List Int → List Int → Int × Int → Int × Int
  | r :: rs,o :: os,a => wg of rs os (if o = of then (a.1 + r,if r > a.2 then r else a.2) else a)
  | _,_,a => a
def ws (of : Int) : List Int → List Int → Int → Int
  | r :: rs,o :: os,w => ws of rs os (if o = of then w + r else w)
  | _,_,w => w
theorem wg_ws (of : Int) : ∀ (r o : List Int) (a : Int × Int),(wg of r o a).1 = ws of r o a.1
  | [],_,a => by simp [wg,ws]
  | r :: rs,[],a => by simp [wg,ws]
  | r :: rs,o :: os,a => by
    rw [wg,ws,wg_ws of rs os]
    by_cases h : o = of <;> simp [h]
def Ok20 (l : List Int) : Prop := ∀ x ∈ l,0 ≤ x ∧ x ≤ 20
theorem Ok20.at {l : List Int} (h : Ok20 l) (k : Nat) (hk : k < l.length) : 0 ≤ l[k] ∧ l[k] ≤ 20 := h _ (List.getElem_mem hk)
theorem ws_bound (of : Int) : ∀ (r o : List Int) (w : Int),Ok20 r → 0 ≤ w → 0 ≤ ws of r o w ∧ ws of r o w ≤ w + 20 * r.length
  | [],_,w,_,h => by simp [ws,h]
  | r :: rs,[],w,_,h => by simp [ws,h]; omega
  | r :: rs,o :: os,w,hr,h => by
    have h1 := hr r (by simp)
    have h2 := ws_bound of rs os (if o = of then w + r else w) (fun x hx => hr x (by simp [hx])) (by split <;> omega)
    rw [ws]
    simp only [List.length_cons]
    split at h2 <;> rename_i hc
    · rw [if_pos hc]; omega
    · rw [if_neg hc]; omega
theorem wg_bound (of : Int) : ∀ (r o : List Int) (a : Int × Int),Ok20 r → 0 ≤ a.2 ∧ a.2 ≤ 20 → 0 ≤ (wg of r o a).2 ∧ (wg of r o a).2 ≤ 20
  | [],_,a,_,h => by simpa [wg] using h
  | r :: rs,[],a,_,h => by simpa [wg] using h
  | r :: rs,o :: os,a,hr,h => by
    have h1 := hr r (by simp)
    rw [wg]
    refine wg_bound of rs os _ (fun x hx => hr x (by simp [hx])) ?_
    by_cases hc : o = of
    · rw [if_pos hc]; dsimp only; split <;> omega
    · rw [if_neg hc]; exact h
theorem share_loop (nl ex nl' ex' : Bool) (sz sz' : Nat) (rs : List Row) (i : Nat) (hi : i < rs.length) (o : List Int) (ho : o.length = rs[i].l.length) (h20 : Ok20 rs[i].l) (hlen : o.length ≤ 100) (of : Int) (n : Nat) : ∀ (k : Nat) (w g : Int),k + n = o.length → 0 ≤ w → w ≤ 20 * k →
    exF LP share_division_share.L0 [(1,.int .i64 (i : Int)),(2,.int .i64 of),(3,.ptr 0 0 2),(6,.int .i64 w),(7,.int .i64 g),(11,IL nl' ex' sz' o),(12,.int .i64 (o.length : Int)),(13,.int .i64 (k : Int))] [⟨[VL nl ex sz rs,IL nl' ex' sz' o],true⟩] =
      some (.exit 0,[(6,.int .i64 (wg of (rs[i].l.drop k) (o.drop k) (w,g)).1),(7,.int .i64 (wg of (rs[i].l.drop k) (o.drop k) (w,g)).2)],[⟨[VL nl ex sz rs,IL nl' ex' sz' o],true⟩]) := by
  induction n with
  | zero =>
    intro k w g hk h0 h1
    rw [share_division_share.L0_eq]
    simp only [share_division_share.B0,exF_seq,exF_region,exF_cond,exF_exit,runL,wantL,stepL,evL,LEnv.at,putL,loadFine,LEnv.keep,List.map_cons,List.map_nil,nbeq,bin_lss,Nat.reduceEqDiff,decide_true,decide_false,cond_true,cond_false,eq_self,show ¬ ((k : Int) < (o.length : Int)) by omega]
    simp [List.drop_eq_nil_of_le (show o.length ≤ k by omega),List.drop_eq_nil_of_le (show rs[i].l.length ≤ k by omega),wg]
  | succ n ih =>
    intro k w g hk h0 h1
    have h2 : k < o.length := by omega
    have h3 : k < rs[i].l.length := by omega
    have hx := h20.at k h3
    rw [share_division_share.L0_eq,List.drop_eq_getElem_cons h2,List.drop_eq_getElem_cons h3,wg]
    by_cases he : o[k] = of
    · have hw : IntKind.i64.wrap (w + rs[i].l[k]) = w + rs[i].l[k] := wrap_in (by omega)
      have ih := ih (k + 1) (w + rs[i].l[k]) (if rs[i].l[k] > g then rs[i].l[k] else g) (by omega) (by omega) (by omega)
      simp only [share_division_share.B0,exF_seq,exF_region,exF_block,exF_cond,exF_skip,runL,wantL,stepL,evL,evC,LEnv.at,putL,loadFine,loadL,cellsAt,Trk.putNew,Trk.up,Trk.touch,Trk.gives,Trk.calm,Trk.hit,opdsOf,Trk.fresh,LEnv.keep,List.map_cons,List.map_nil,nbeq,nble,nblt,bin_add,bin_eql,bin_lss,natL_nat,List.any_cons,List.any_nil,Bool.or_false,Bool.or_true,Bool.and_true,Bool.false_and,Bool.not_true,Bool.not_false,Nat.reduceEqDiff,decide_true,decide_false,cond_true,cond_false,List.filter_nil,Nat.reduceAdd,Nat.reduceLeDiff,List.length_nil,List.length_cons,Nat.mul_one,if_true,eq_self,List.getElem?_cons_zero,List.take_zero,List.take_succ_cons,List.drop_zero,foldIntL,kind_beq,show ((k : Int) < (o.length : Int)) by omega,h2,h3,hi,row_at _ _ hi,int_at _ _ _ h2,int_at _ _ _ h3,he,hw,wrap_succ (show k + 1 < 9223372036854775808 by omega),ih]
    · have ih := ih (k + 1) w g (by omega) (by omega) (by omega)
      simp only [share_division_share.B0,exF_seq,exF_region,exF_block,exF_cond,exF_skip,runL,wantL,stepL,evL,evC,LEnv.at,putL,loadFine,loadL,cellsAt,Trk.putNew,Trk.up,Trk.touch,Trk.gives,Trk.calm,opdsOf,Trk.fresh,LEnv.keep,List.map_cons,List.map_nil,nbeq,nble,nblt,bin_add,bin_eql,bin_lss,natL_nat,List.any_cons,List.any_nil,Bool.or_false,Bool.or_true,Bool.and_true,Bool.false_and,Bool.not_true,Bool.not_false,Nat.reduceEqDiff,decide_true,decide_false,cond_true,cond_false,List.filter_nil,Nat.reduceAdd,Nat.reduceLeDiff,List.length_nil,List.length_cons,Nat.mul_one,if_false,eq_self,show ((k : Int) < (o.length : Int)) by omega,h2,int_at _ _ _ h2,he,wrap_succ (show k + 1 < 9223372036854775808 by omega),ih]
theorem share_c (nl ex nl' ex' : Bool) (sz sz' : Nat) (rs : List Row) (i : Nat) (hi : i < rs.length) (o : List Int) (ho : o.length = rs[i].l.length) (h20 : Ok20 rs[i].l) (hlen : o.length ≤ 100) (of : Int) (m : LMem) :
    clF LP n_share_division_share [.agg [VL nl ex sz rs,IL nl' ex' sz' o],.int .i64 (i : Int),.int .i64 of] m = some (.P,.tup [.int .i64 (wg of rs[i].l o (0,0)).1,.int .i64 (wg of rs[i].l o (0,0)).2],m) := by
  refine call_P lp_share_division_share rfl (by simp [LV.pures,LV.pure]) (m1 := [⟨[VL nl ex sz rs,IL nl' ex' sz' o],true⟩]) ?_ (by simp [LV.pures,LV.pure]) m
  have := share_loop nl ex nl' ex' sz sz' rs i hi o ho h20 hlen of o.length 0 0 0 (by omega) (by omega) (by omega)
  simp only [Int.natCast_zero,List.drop_zero] at this
  simp only [share_division_share,share_division_share.B,exF_seq,exF_region,exF_block,exF_ret,runL,wantL,stepL,evL,evC,LEnv.at,putL,loadFine,loadL,cellsAt,Trk.putNew,Trk.up,Trk.touch,Trk.gives,Trk.calm,Trk.hit,opdsOf,Trk.fresh,LEnv.keep,LEnv.ofFrom,List.map_cons,List.map_nil,nbeq,nble,lenL,List.any_cons,List.any_nil,Bool.or_false,Bool.or_true,Bool.and_true,Bool.false_and,Bool.not_true,Bool.not_false,Nat.reduceEqDiff,decide_true,decide_false,cond_true,cond_false,List.filter_nil,Nat.reduceAdd,Nat.reduceLeDiff,reduceCtorEq,List.length_nil,List.length_cons,eq_self,retL,resultsL,resAllL,resOfL,List.nil_append,LV.cells,allocL,List.getElem?_cons_zero,List.getElem?_cons_succ,List.take_succ_cons,List.drop_zero,List.drop_succ_cons,List.take_nil,Nat.le_refl,this]
def own (rs : List Row) (i : Nat) (hi : i < rs.length) (o : List Int) : Int := ws i rs[i].l o 0
theorem envy_c (nl ex nl' ex' : Bool) (sz sz' : Nat) (rs : List Row) (i : Nat) (hi : i < rs.length) (o : List Int) (ho : o.length = rs[i].l.length) (h20 : Ok20 rs[i].l) (hlen : o.length ≤ 100) (j : Nat) (m : LMem) :
    clF LP n_share_division_envy [.agg [VL nl ex sz rs,IL nl' ex' sz' o],.int .i64 (i : Int),.int .i64 (j : Int)] m =
      some (.P,.tup [.int .i64 ((wg j rs[i].l o (0,0)).1 - (wg i rs[i].l o (0,0)).1),.int .i64 ((wg j rs[i].l o (0,0)).1 - (wg j rs[i].l o (0,0)).2 - (wg i rs[i].l o (0,0)).1)],m) := by
  refine call_P lp_share_division_envy rfl (by simp [LV.pures,LV.pure]) (m1 := [⟨[VL nl ex sz rs,IL nl' ex' sz' o],true⟩]) ?_ (by simp [LV.pures,LV.pure]) m
  have b1 := ws_bound j rs[i].l o 0 h20 (by omega)
  have b2 := ws_bound i rs[i].l o 0 h20 (by omega)
  have b3 := wg_bound j rs[i].l o (0,0) h20 (by simp)
  have e1 := wg_ws j rs[i].l o (0,0)
  have e2 := wg_ws i rs[i].l o (0,0)
  simp only at e1 e2
  have s1 := share_c nl ex nl' ex' sz sz' rs i hi o ho h20 hlen i
  have s2 := share_c nl ex nl' ex' sz sz' rs i hi o ho h20 hlen j
  generalize wg (i : Int) rs[i].l o (0,0) = A at *
  generalize wg (j : Int) rs[i].l o (0,0) = B at *
  have w1 : IntKind.i64.wrap (B.1 - A.1) = B.1 - A.1 := wrap_in (by omega)
  have w2 : IntKind.i64.wrap (B.1 - B.2) = B.1 - B.2 := wrap_in (by omega)
  have w3 : IntKind.i64.wrap (B.1 - B.2 - A.1) = B.1 - B.2 - A.1 := wrap_in (by omega)
  simp only [share_division_envy,share_division_envy.B,exF_seq,exF_region,exF_ret,runL,wantL,stepL,evL,evC,LEnv.at,putL,loadFine,loadL,cellsAt,Trk.calm,Trk.hit,LEnv.keep,LEnv.ofFrom,List.map_cons,List.map_nil,nbeq,nble,ofAVs,bin_sub,List.any_nil,Bool.or_false,Bool.or_true,Bool.and_true,Bool.false_and,Bool.not_true,Bool.not_false,Nat.reduceEqDiff,decide_true,decide_false,cond_true,cond_false,Nat.reduceAdd,Nat.reduceLeDiff,reduceCtorEq,List.length_nil,List.length_cons,eq_self,retL,resultsL,resAllL,resOfL,List.append_nil,List.nil_append,LV.cells,allocL,List.getElem?_cons_zero,List.getElem?_cons_succ,List.take_succ_cons,List.drop_zero,List.take_nil,Nat.le_refl,s1,s2,w1,w2,w3]
end Go.Am.Share
set_option linter.unusedVariables false
set_option linter.unusedSimpArgs false
set_option maxRecDepth 10000
namespace Go.Am.Share
def divE (vs : List (List Int)) (o : List Int) : Int :=
  if chkV vs ≠ 0 then chkV vs else if o.length ≠ (vs.getD 0 []).length then 5 else if o.any (fun x => !inB 0 ((vs.length : Int) - 1) x) then 2 else 0
theorem rowsChk_ok {n0 : Nat} : ∀ {vs : List (List Int)},rowsChk n0 vs = 0 → ∀ r ∈ vs,r.length = n0 ∧ Ok20 r
  | [],_,r,h => by simp at h
  | v :: vs,h,r,hr => by
    rw [rowsChk] at h
    split at h
    · omega
    · rename_i h1
      split at h
      · omega
      · rename_i h2
        rcases List.mem_cons.1 hr with rfl | hr
        · refine ⟨by simpa using h1,fun x hx => ?_⟩
          simp only [List.any_eq_true,not_exists,not_and,Bool.not_eq_true',Bool.not_eq_false] at h2
          have := h2 x hx
          simpa [inB] using this
        · exact rowsChk_ok h r hr
theorem chkV_ok {vs : List (List Int)} (h : chkV vs = 0) : 0 < vs.length ∧ vs.length ≤ 4 ∧ (vs.getD 0 []).length ≤ 6 ∧ ∀ r ∈ vs,r.length = (vs.getD 0 []).length ∧ Ok20 r := by
  unfold chkV at h
  split at h
  · omega
  · rename_i h1
    split at h
    · omega
    · rename_i h2
      exact ⟨by omega,by omega,by omega,rowsChk_ok h⟩
theorem opened1_c (nl ex : Bool) (sz : Nat) (rs : List Row) (hl : 0 < rs.length ∧ rs.length < 1000000) (x : Int) (m : LMem) : clF LP n_share_opened_1 [.int .i64 x,.elt [VL nl ex sz rs] 0] m = some (.P,.bool (!inB 0 ((rs.length : Int) - 1) x),m) := by
  refine call_P lp_share_opened_1 rfl (by simp [LV.pures,LV.pure]) (m1 := []) ?_ rfl m
  have hw : IntKind.i64.wrap ((rs.length : Int) - 1) = (rs.length : Int) - 1 := wrap_in (by omega)
  simp only [share_opened_1,share_opened_1.B,exF_seq,exF_region,exF_ret,runL,wantL,stepL,evL,evC,LEnv.at,putL,loadFine,loadL,cellsAt,Trk.putNew,Trk.up,Trk.touch,Trk.gives,Trk.calm,opdsOf,Trk.fresh,LEnv.keep,LEnv.ofFrom,List.map_cons,List.map_nil,nbeq,nble,ofAVs,lenL,bin_sub,List.any_cons,List.any_nil,Bool.or_false,Bool.or_true,Bool.and_true,Bool.false_and,Bool.not_true,Bool.not_false,Nat.reduceEqDiff,decide_true,decide_false,cond_true,cond_false,List.filter_nil,Nat.reduceAdd,Nat.reduceLeDiff,reduceCtorEq,List.length_nil,List.length_cons,eq_self,retL,resultsL,resAllL,resOfL,List.append_nil,List.nil_append,unL,List.getElem?_cons_zero,List.take_succ_cons,List.drop_zero,List.take_nil,Nat.le_refl,hw,within_c]
theorem clone_c (nl ex : Bool) (sz : Nat) (l : List Int) (hl : l.length < 1000000) (m : LMem) (hsz : l = [] ∨ sz = 1) (hnl : nl = true → l = []) : clF LP n_slices_Clone_int_int [IL nl ex sz l] m =
    if l = [] then some (.O,.lst nl true 0 0 [],m) else some (.O,.sl m.length 0 l.length l.length 1 1 l.length,m ++ [⟨l.map (LV.int .i64),true⟩]) := by
  rw [clF_eq,lp_slices_Clone_int_int]
  simp only [callMode,slices_Clone_int_int,views_pures m [IL nl ex sz l] (by simp [LV.pures,LV.pure])]
  cases nl with
  | true =>
    obtain rfl := hnl rfl
    simp only [slices_Clone_int_int.B,exF_seq,exF_region,exF_cond,exF_ret,runL,wantL,stepL,evL,evC,LEnv.at,putL,loadFine,LEnv.keep,LEnv.ofFrom,List.map_cons,List.map_nil,nbeq,Bool.and_true,Bool.not_false,Nat.reduceEqDiff,decide_true,decide_false,cond_true,cond_false,reduceCtorEq,List.length_nil,if_true,eq_self,retL,resultsL,resAllL,resOfL,List.append_nil,freeze,List.all_nil,nilOf,eqsL,Bool.xor_true,LV.shift,newOnly,LV.solid,freeze]
  | false =>
    by_cases h : l = []
    · subst h
      simp only [slices_Clone_int_int.B,exF_seq,exF_region,exF_cond,exF_ret,exF_skip,runL,wantL,stepL,evL,evC,LEnv.at,putL,loadFine,LEnv.keep,LEnv.ofFrom,List.map_cons,List.map_nil,nbeq,nble,ofAVs,Nat.zero_mul,Bool.or_false,Bool.true_or,Bool.or_true,Bool.and_true,Nat.reduceEqDiff,decide_true,decide_false,cond_true,cond_false,Nat.reduceAdd,reduceCtorEq,List.length_nil,if_true,eq_self,retL,resultsL,resAllL,resOfL,List.append_nil,freeze,Nat.reduceDiv,List.take_nil,List.all_nil,fillL,nilOf,eqsL,Bool.xor_false,LV.shift,newOnly,LV.solid,freeze,appendL,contents,views,viewL]
    · obtain rfl : sz = 1 := by rcases hsz with c | c; exact absurd c h; exact c
      have h0 : ¬ l.length = 0 := by simpa using h
      have hr1 : l.length * 8 ≤ roomMost := by unfold roomMost; omega
      have hr2 : l.length ≤ roomMost := by unfold roomMost; omega
      simp only [slices_Clone_int_int.B,exF_seq,exF_region,exF_cond,exF_ret,exF_skip,runL,wantL,stepL,evL,evC,LEnv.at,putL,loadFine,LEnv.keep,LEnv.ofFrom,List.map_cons,List.map_nil,nbeq,nble,ofAVs,Nat.zero_mul,Bool.or_false,Bool.or_true,Bool.and_true,Nat.reduceEqDiff,decide_true,decide_false,cond_true,cond_false,reduceCtorEq,List.length_nil,Nat.mul_one,if_false,eq_self,retL,resultsL,resAllL,resOfL,List.nil_append,freeze,Nat.reduceDiv,List.take_nil,List.all_cons,List.all_nil,fillL,solids_int,scalars_int,nilOf,eqsL,Bool.xor_false,LV.shift,newOnly,LV.solid,freeze,appendL,contents,views,viewL,h0,hr1,hr2,newSl,Nat.zero_add,shifts_int,h]
end Go.Am.Share
