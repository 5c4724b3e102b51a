import Derived.Test.YtcckhkcchpfdoaaShareWorks
set_option linter.unusedVariables false
set_option linter.unusedSimpArgs false
set_option maxRecDepth 10000
namespace Go.Am
theorem tmod_nat (a b : Nat) : (a : Int).tmod (b : Int) = ((a % b : Nat) : Int) := rfl
theorem slc_take (nl ex : Bool) (l : List Int) (k : Nat) (h : k ≤ l.length) : sliceL 1 (IL nl ex 1 l) none (some (.int .i64 (k : Int))) none = some (IL nl (ex && decide (k = l.length)) 1 (l.take k)) := by
  have h1 : Nat.ble k l.length = true := by simpa using h
  have h2 : Nat.ble 0 k = true := by simp
  simp [sliceL,optNatL,natL_nat,h1,h2,List.map_take,Nat.min_eq_left h,nbeq]
namespace Share
def idxI (x : Int) : List Int → Nat → Int
  | [],_ => -1
  | a :: r,k => if x = a then (k : Int) else idxI x r (k + 1)
theorem idxI_mem (x : Int) : ∀ (l : List Int) (k : Nat),(0 ≤ idxI x l k) ↔ x ∈ l
  | [],k => by simp [idxI]
  | a :: r,k => by
    rw [idxI]
    by_cases h : x = a
    · simp [h]
    · simp [h,idxI_mem x r (k + 1)]
theorem index_loop (nl ex : Bool) (sz : Nat) (l : List Int) (x : Int) (hl : l.length < 1000000) (n : Nat) : ∀ k,k + n = l.length →
    exF LP slices_Index_int_int.L0 [(0,IL nl ex sz l),(1,.int .i64 x),(7,.int .i64 (l.length : Int)),(8,.int .i64 (k : Int))] [] =
      if idxI x (l.drop k) k < 0 then some (.exit 0,[],[]) else some (.ret,[(4,.int .i64 (idxI x (l.drop k) k))],[]) := by
  induction n with
  | zero =>
    intro k hk
    rw [slices_Index_int_int.L0_eq]
    simp only [slices_Index_int_int.B0,exF_seq,exF_region,exF_cond,exF_exit,runL,wantL,stepL,evL,LEnv.at,putL,loadFine,LEnv.keep,List.map_cons,List.map_nil,nbeq,bin_lss,Nat.reduceEqDiff,decide_true,decide_false,cond_true,cond_false,reduceCtorEq,eq_self,show ¬ ((k : Int) < (l.length : Int)) by omega]
    simp [List.drop_eq_nil_of_le (show l.length ≤ k by omega),idxI]
  | succ n ih =>
    intro k hk
    have h2 : k < l.length := by omega
    rw [slices_Index_int_int.L0_eq,List.drop_eq_getElem_cons h2,idxI]
    have hn : ¬ ((k : Int) < 0) := by omega
    by_cases he : x = l[k]
    · simp only [slices_Index_int_int.B0,exF_seq,exF_region,exF_block,exF_cond,exF_ret,exF_skip,runL,wantL,stepL,evL,LEnv.at,putL,loadFine,loadL,cellsAt,Trk.putNew,Trk.up,Trk.touch,Trk.gives,Trk.calm,opdsOf,Trk.fresh,LEnv.keep,List.map_cons,List.map_nil,nbeq,nble,nblt,bin_eql,bin_lss,natL_nat,List.any_cons,List.any_nil,Bool.or_false,Bool.or_true,Bool.and_true,Bool.false_and,Bool.not_true,Bool.not_false,Nat.reduceEqDiff,decide_true,decide_false,cond_true,cond_false,List.filter_nil,Nat.reduceAdd,Nat.reduceLeDiff,reduceCtorEq,List.length_nil,Nat.mul_one,if_true,if_false,eq_self,show ((k : Int) < (l.length : Int)) by omega,h2,int_at _ _ _ h2,he,hn]
    · simp only [slices_Index_int_int.B0,exF_seq,exF_region,exF_block,exF_cond,exF_skip,runL,wantL,stepL,evL,evC,LEnv.at,putL,loadFine,loadL,cellsAt,Trk.putNew,Trk.up,Trk.touch,Trk.gives,Trk.calm,opdsOf,Trk.fresh,LEnv.keep,List.map_cons,List.map_nil,nbeq,nble,nblt,bin_add,bin_eql,bin_lss,natL_nat,List.any_cons,List.any_nil,Bool.or_false,Bool.or_true,Bool.and_true,Bool.false_and,Bool.not_true,Bool.not_false,Nat.reduceEqDiff,decide_true,decide_false,cond_true,cond_false,List.filter_nil,Nat.reduceAdd,Nat.reduceLeDiff,reduceCtorEq,List.length_nil,Nat.mul_one,if_false,eq_self,show ((k : Int) < (l.length : Int)) by omega,h2,int_at _ _ _ h2,he,wrap_succ (show k + 1 < 9223372036854775808 by omega),ih (k + 1) (by omega)]
theorem index_c (nl ex : Bool) (sz : Nat) (l : List Int) (x : Int) (hl : l.length < 1000000) (m : LMem) : clF LP n_slices_Index_int_int [IL nl ex sz l,.int .i64 x] m = some (.P,.int .i64 (idxI x l 0),m) := by
  refine call_P lp_slices_Index_int_int rfl (by simp [LV.pures,LV.pure]) (m1 := []) ?_ rfl m
  have h := index_loop nl ex sz l x hl l.length 0 (by omega)
  simp only [Int.natCast_zero,List.drop_zero] at h
  by_cases hc : idxI x l 0 < 0
  · have : idxI x l 0 = -1 := by
      have : ∀ (l : List Int) (k : Nat),idxI x l k < 0 → idxI x l k = -1 := by
        intro l
        induction l with
        | nil => intro k _; rfl
        | cons a r ih => intro k h; rw [idxI] at h ⊢; split at h <;> rename_i c <;> simp only [c,if_true,if_false] at * <;> first | omega | exact ih _ h
      exact this l 0 hc
    simp only [slices_Index_int_int,slices_Index_int_int.B,exF_seq,exF_region,exF_block,exF_ret,runL,wantL,stepL,evL,evC,LEnv.at,putL,loadFine,LEnv.keep,LEnv.ofFrom,List.map_cons,List.map_nil,nbeq,lenL,Nat.reduceEqDiff,decide_true,decide_false,cond_true,cond_false,Nat.reduceAdd,reduceCtorEq,if_true,eq_self,retL,resultsL,resAllL,resOfL,h,hc]
    rw [this]
  · simp only [slices_Index_int_int,slices_Index_int_int.B,exF_seq,exF_region,exF_block,runL,wantL,stepL,evL,evC,LEnv.at,putL,loadFine,LEnv.keep,LEnv.ofFrom,List.map_cons,List.map_nil,nbeq,lenL,Nat.reduceEqDiff,decide_true,decide_false,cond_true,cond_false,Nat.reduceAdd,reduceCtorEq,if_false,eq_self,retL,resultsL,resAllL,resOfL,h,hc]
theorem contains_c (nl ex : Bool) (sz : Nat) (l : List Int) (x : Int) (hl : l.length < 1000000) (m : LMem) : clF LP n_slices_Contains_int_int [IL nl ex sz l,.int .i64 x] m = some (.P,.bool (decide (x ∈ l)),m) := by
  refine call_P lp_slices_Contains_int_int rfl (by simp [LV.pures,LV.pure]) (m1 := []) ?_ rfl m
  have h := fun m => index_c nl ex sz l x hl m
  have h2 := idxI_mem x l 0
  simp only [slices_Contains_int_int,slices_Contains_int_int.B,exF_seq,exF_region,exF_ret,runL,wantL,stepL,evL,evC,LEnv.at,putL,loadFine,LEnv.keep,LEnv.ofFrom,List.map_cons,List.map_nil,nbeq,ofAVs,bin_geq,Nat.reduceEqDiff,decide_true,decide_false,cond_true,cond_false,Nat.reduceAdd,reduceCtorEq,eq_self,retL,resultsL,resAllL,resOfL,List.append_nil,List.nil_append,h,h2]
def ordE (N : Int) (pre : List Int) : List Int → Int
  | [] => 0
  | x :: r => if inB 0 (N - 1) x = false then 2 else if x ∈ pre then 6 else ordE N (pre ++ [x]) r
theorem ordP_loop (nl ex nl' ex' : Bool) (sz : Nat) (rs : List Row) (o : List Int) (hl : 0 < rs.length ∧ rs.length < 1000000) (ho : o.length < 1000000) (n : Nat) : ∀ k,k + n = o.length →
    exF LP share_Turns.L0 [(0,VL nl ex sz rs),(1,IL nl' ex' 1 o),(28,IL nl' ex' 1 o),(29,.int .i64 (o.length : Int)),(30,.int .i64 (k : Int))] [] =
      if ordE (rs.length : Int) (o.take k) (o.drop k) = 0 then some (.exit 1,[(0,VL nl ex sz rs),(1,IL nl' ex' 1 o)],[]) else some (.ret,[(4,LNIL),(5,.int .i64 (ordE (rs.length : Int) (o.take k) (o.drop k)))],[]) := by
  have hw : IntKind.i64.wrap ((rs.length : Int) - 1) = (rs.length : Int) - 1 := wrap_in (by omega)
  induction n with
  | zero =>
    intro k hk
    rw [share_Turns.L0_eq]
    simp only [share_Turns.B0,exF_seq,exF_region,exF_cond,exF_exit,runL,wantL,stepL,evL,LEnv.at,putL,loadFine,LEnv.keep,List.map_cons,List.map_nil,nbeq,bin_lss,Nat.reduceEqDiff,decide_true,decide_false,cond_true,cond_false,reduceCtorEq,eq_self,show ¬ ((k : Int) < (o.length : Int)) by omega]
    simp [List.drop_eq_nil_of_le (show o.length ≤ k by omega),ordE]
  | succ n ih =>
    intro k hk
    have h2 : k < o.length := by omega
    rw [share_Turns.L0_eq,List.drop_eq_getElem_cons h2,ordE]
    have hs := slc_take nl' ex' o k (by omega)
    have hc := fun e => contains_c nl' e 1 (o.take k) o[k] (by simp; omega)
    have hlen : (o.take k).length = k := by simp; omega
    cases he : inB 0 ((rs.length : Int) - 1) o[k]
    · simp only [share_Turns.B0,exF_seq,exF_region,exF_block,exF_cond,exF_ret,exF_skip,runL,wantL,stepL,evL,evC,LEnv.at,putL,loadFine,loadL,cellsAt,Trk.putNew,Trk.up,Trk.touch,Trk.gives,Trk.calm,opdsOf,Trk.fresh,LEnv.keep,List.map_cons,List.map_nil,nbeq,nble,nblt,ofAVs,lenL,bin_sub,bin_lss,natL_nat,List.any_cons,List.any_nil,Bool.or_false,Bool.or_true,Bool.and_true,Bool.false_and,Bool.not_true,Bool.not_false,Nat.reduceEqDiff,decide_true,decide_false,cond_true,cond_false,List.filter_nil,Nat.reduceAdd,Nat.reduceLeDiff,reduceCtorEq,List.length_nil,Nat.mul_one,if_true,if_false,eq_self,List.append_nil,List.nil_append,unL,Int.reduceEq,show ((k : Int) < (o.length : Int)) by omega,h2,int_at _ _ _ h2,within_c,he,hw]
    · by_cases hm : o[k] ∈ o.take k
      · simp only [share_Turns.B0,exF_seq,exF_region,exF_block,exF_cond,exF_ret,exF_skip,runL,wantL,stepL,evL,evC,LEnv.at,putL,loadFine,loadL,cellsAt,Trk.putNew,Trk.up,Trk.touch,Trk.gives,Trk.calm,opdsOf,Trk.fresh,LEnv.keep,List.map_cons,List.map_nil,nbeq,nble,nblt,ofAVs,lenL,bin_sub,bin_lss,natL_nat,List.any_cons,List.any_nil,Bool.or_false,Bool.or_true,Bool.and_true,Bool.false_and,Bool.not_true,Bool.not_false,Nat.reduceEqDiff,decide_true,decide_false,cond_true,cond_false,List.filter_nil,Nat.reduceAdd,Nat.reduceLeDiff,reduceCtorEq,List.length_nil,Nat.mul_one,if_true,if_false,eq_self,List.append_nil,List.nil_append,unL,Int.reduceEq,show ((k : Int) < (o.length : Int)) by omega,h2,int_at _ _ _ h2,within_c,he,hw,Option.map_some,Option.map_none,hs,hc,hm]
      · have e1 : o.take k ++ [o[k]] = o.take (k + 1) := (List.take_succ_eq_append_getElem h2).symm
        simp only [share_Turns.B0,exF_seq,exF_region,exF_block,exF_cond,exF_skip,runL,wantL,stepL,evL,evC,LEnv.at,putL,loadFine,loadL,cellsAt,Trk.putNew,Trk.up,Trk.touch,Trk.gives,Trk.calm,opdsOf,Trk.fresh,LEnv.keep,List.map_cons,List.map_nil,nbeq,nble,nblt,ofAVs,lenL,bin_add,bin_sub,bin_lss,natL_nat,List.any_cons,List.any_nil,Bool.or_false,Bool.or_true,Bool.and_true,Bool.false_and,Bool.not_true,Bool.not_false,Nat.reduceEqDiff,decide_true,decide_false,cond_true,cond_false,List.filter_nil,Nat.reduceAdd,Nat.reduceLeDiff,reduceCtorEq,List.length_nil,Nat.mul_one,if_false,eq_self,List.append_nil,List.nil_append,unL,show ((k : Int) < (o.length : Int)) by omega,h2,int_at _ _ _ h2,within_c,he,hw,Option.map_some,Option.map_none,hs,hc,hm,e1,wrap_succ (show k + 1 < 9223372036854775808 by omega),ih (k + 1) (by omega)]
end Share
end Go.Am
set_option linter.unusedVariables false
set_option linter.unusedSimpArgs false
set_option maxRecDepth 10000
namespace Go.Am
theorem set_int (k : IntKind) (l : List Int) (i : Nat) (x : Int) (h : i < l.length) : (l.map (LV.int k)).take i ++ [.int k x] ++ (l.map (LV.int k)).drop (i + 1) = (l.set i x).map (LV.int k) := by
  rw [List.map_set,List.set_eq_take_append_cons_drop,if_pos (by simpa using h)]
  simp
namespace Share
def pk : List Int → List Int → Nat → Nat × Int → Nat × Int
  | r :: rs,o :: os,k,a => pk rs os (k + 1) (if o = -1 ∧ a.2 < r then (k,r) else a)
  | _,_,_,a => a
abbrev SLo (b L : Nat) : LV := .sl b 0 L L 0 1 L
abbrev TM (V : LV) (o : List Int) : LMem := [⟨[V,SLo 1 o.length],true⟩,⟨o.map (LV.int .i64),true⟩,⟨[V,SLo 1 o.length],true⟩]
theorem turnP_inner (nl ex nl' ex' : Bool) (sz : Nat) (rs : List Row) (ord : List Int) (i : Nat) (hi : i < rs.length) (o : List Int) (ho : o.length = rs[i].l.length) (hl : o.length ≤ 6) (L w t : Int) (n : Nat) : ∀ (k : Nat) (a : Nat × Int),k + n = o.length →
    exF LP share_Turns.L1 [(0,VL nl ex sz rs),(1,IL nl' ex' 1 ord),(9,.ptr 2 0 2),(11,.int .i64 w),(12,.int .i64 (a.1 : Int)),(13,.int .i64 a.2),(53,.int .i64 L),(54,.int .i64 t),(67,rs[i].lv),(68,.int .i64 (o.length : Int)),(69,.int .i64 (k : Int))] (TM (VL nl ex sz rs) o) =
      some (.exit 6,[(0,VL nl ex sz rs),(1,IL nl' ex' 1 ord),(9,.ptr 2 0 2),(11,.int .i64 w),(12,.int .i64 ((pk (rs[i].l.drop k) (o.drop k) k a).1 : Int)),(53,.int .i64 L),(54,.int .i64 t)],TM (VL nl ex sz rs) o) := by
  induction n with
  | zero =>
    intro k a hk
    rw [share_Turns.L1_eq]
    simp only [share_Turns.B1,exF_seq,exF_region,exF_cond,exF_exit,runL,wantL,stepL,evL,LEnv.at,putL,loadFine,LEnv.keep,List.map_cons,List.map_nil,nbeq,bin_lss,Nat.reduceEqDiff,decide_true,decide_false,cond_true,cond_false,reduceCtorEq,eq_self,show ¬ ((k : Int) < (o.length : Int)) by omega]
    simp [List.drop_eq_nil_of_le (show o.length ≤ k by omega),List.drop_eq_nil_of_le (show rs[i].l.length ≤ k by omega),pk]
  | succ n ih =>
    intro k a hk
    have h2 : k < o.length := by omega
    have h3 : k < rs[i].l.length := by omega
    rw [share_Turns.L1_eq,List.drop_eq_getElem_cons h2,List.drop_eq_getElem_cons h3,pk]
    by_cases he : o[k] = -1
    · by_cases hq : a.2 < rs[i].l[k]
      · have ih := ih (k + 1) (k,rs[i].l[k]) (by omega)
        simp only at ih
        simp only [share_Turns.B1,beqT,exF_seq,exF_region,exF_block,exF_cond,exF_skip,runL,wantL,stepL,evL,evC,LEnv.at,putL,loadFine,loadL,cellsAt,Trk.putNew,Trk.up,Trk.touch,Trk.gives,Trk.calm,Trk.hit,opdsOf,Trk.fresh,LEnv.keep,List.map_cons,List.map_nil,nbeq,nble,nblt,bin_add,bin_eql,bin_lss,bin_gtr,natL_nat,List.any_cons,List.any_nil,Bool.or_false,Bool.or_true,Bool.and_true,Bool.false_and,Bool.not_true,Bool.not_false,Nat.reduceEqDiff,decide_true,decide_false,cond_true,cond_false,List.filter_nil,Nat.reduceAdd,Nat.reduceLeDiff,reduceCtorEq,List.length_nil,List.length_cons,Nat.mul_one,if_true,eq_self,and_true,List.getElem?_cons_zero,List.getElem?_cons_succ,List.take_succ_cons,List.drop_zero,List.drop_succ_cons,List.take_nil,Nat.le_refl,show ((k : Int) < (o.length : Int)) by omega,h2,h3,int_at _ _ _ h2,int_at _ _ _ h3,Nat.zero_add,List.length_map,he,hq,wrap_succ (show k + 1 < 9223372036854775808 by omega),ih]
      · have ih := ih (k + 1) a (by omega)
        simp only [share_Turns.B1,beqT,exF_seq,exF_region,exF_block,exF_cond,exF_skip,runL,wantL,stepL,evL,evC,LEnv.at,putL,loadFine,loadL,cellsAt,Trk.putNew,Trk.up,Trk.touch,Trk.gives,Trk.calm,Trk.hit,opdsOf,Trk.fresh,LEnv.keep,List.map_cons,List.map_nil,nbeq,nble,nblt,bin_add,bin_eql,bin_lss,bin_gtr,natL_nat,List.any_cons,List.any_nil,Bool.or_false,Bool.or_true,Bool.and_true,Bool.false_and,Bool.not_true,Bool.not_false,Nat.reduceEqDiff,decide_true,decide_false,cond_true,cond_false,List.filter_nil,Nat.reduceAdd,Nat.reduceLeDiff,reduceCtorEq,List.length_nil,List.length_cons,Nat.mul_one,if_false,eq_self,and_false,List.getElem?_cons_zero,List.getElem?_cons_succ,List.take_succ_cons,List.drop_zero,List.drop_succ_cons,List.take_nil,Nat.le_refl,show ((k : Int) < (o.length : Int)) by omega,h2,h3,int_at _ _ _ h2,int_at _ _ _ h3,Nat.zero_add,List.length_map,he,hq,wrap_succ (show k + 1 < 9223372036854775808 by omega),ih]
    · have ih := ih (k + 1) a (by omega)
      simp only [share_Turns.B1,beqT,exF_seq,exF_region,exF_block,exF_cond,exF_skip,runL,wantL,stepL,evL,evC,LEnv.at,putL,loadFine,loadL,cellsAt,Trk.putNew,Trk.up,Trk.touch,Trk.gives,Trk.calm,Trk.hit,opdsOf,Trk.fresh,LEnv.keep,List.map_cons,List.map_nil,nbeq,nble,nblt,bin_add,bin_eql,bin_lss,natL_nat,List.any_cons,List.any_nil,Bool.or_false,Bool.or_true,Bool.and_true,Bool.false_and,Bool.not_true,Bool.not_false,Nat.reduceEqDiff,decide_true,decide_false,cond_true,cond_false,List.filter_nil,Nat.reduceAdd,Nat.reduceLeDiff,reduceCtorEq,List.length_nil,List.length_cons,Nat.mul_one,if_false,eq_self,false_and,List.getElem?_cons_zero,List.getElem?_cons_succ,List.take_succ_cons,List.drop_zero,List.drop_succ_cons,List.take_nil,Nat.le_refl,show ((k : Int) < (o.length : Int)) by omega,h2,h3,int_at _ _ _ h2,int_at _ _ _ h3,Nat.zero_add,List.length_map,he,wrap_succ (show k + 1 < 9223372036854775808 by omega),ih]
theorem pk_lt : ∀ (r o : List Int) (k : Nat) (a : Nat × Int) (L : Nat),k + o.length = L → a.1 < L → (pk r o k a).1 < L
  | [],o,k,a,L,h,ha => by simpa [pk] using ha
  | r :: rs,[],k,a,L,h,ha => by simpa [pk] using ha
  | r :: rs,o :: os,k,a,L,h,ha => by
    simp only [List.length_cons] at h
    rw [pk]
    refine pk_lt rs os (k + 1) _ L (by omega) ?_
    split
    · show k < L
      omega
    · exact ha
end Share
end Go.Am
