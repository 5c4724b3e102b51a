import Derived.Test.YtcckhkcchpfdoaaShareC17
import Derived.Test.YtcckhkcchpfdoaaShareWorks
set_option linter.unusedVariables false
set_option linter.unusedSimpArgs false
set_option maxRecDepth 10000
namespace Go.Am.Share
def allS (N : Nat) (P : List (List Int)) : List (List Int) := P.flatMap fun p => (List.range' 0 N).map fun j : Nat => p ++ [(j : Int)]
def allD (N : Nat) : Nat → List (List Int)
  | 0 => [[]]
  | t + 1 => allS N (allD N t)
theorem allS_length (N : Nat) : ∀ (P : List (List Int)),(allS N P).length = N * P.length
  | [] => by simp [allS]
  | p :: r => by
    have := allS_length N r
    unfold allS at this ⊢
    rw [List.flatMap_cons,List.length_append,this,List.length_map,List.length_range',List.length_cons]
    rw [Nat.mul_add,Nat.mul_one,Nat.add_comm]
theorem allD_length (N : Nat) : ∀ (t : Nat),(allD N t).length = N ^ t
  | 0 => rfl
  | t + 1 => by rw [allD,allS_length,allD_length N t,Nat.pow_succ,Nat.mul_comm]
theorem allD_mem (N : Nat) : ∀ (t : Nat),∀ q ∈ allD N t,q.length = t ∧ ∀ x ∈ q,0 ≤ x ∧ x < (N : Int)
  | 0,q,h => by simp [allD] at h; subst h; simp
  | t + 1,q,h => by
    simp only [allD,allS,List.mem_flatMap,List.mem_map,List.mem_range'] at h
    obtain ⟨p,hp,j,⟨i,hi,rfl⟩,rfl⟩ := h
    obtain ⟨a,b⟩ := allD_mem N t p hp
    refine ⟨by simp [a],fun x hx => ?_⟩
    rcases List.mem_append.1 hx with c | c
    · exact b x c
    · simp at c; omega
theorem pow_bound {N t : Nat} (hN : N ≤ 4) (ht : t ≤ 6) : N ^ t ≤ 4096 := by
  have h1 : N ^ t ≤ 4 ^ t := Nat.pow_le_pow_left hN t
  have h2 : 4 ^ t ≤ 4 ^ 6 := Nat.pow_le_pow_right (by omega) ht
  omega
end Go.Am.Share
set_option linter.unusedVariables false
set_option linter.unusedSimpArgs false
set_option maxRecDepth 10000
namespace Go.Am.Share
def fairI (V : List (List Int)) (o : List Int) : Bool := decide (fstI (fun j => decide (enI V o j ≠ -1)) V.length 0 = -1)
theorem fair_loop (nl ex nl' ex' : Bool) (sz sz' : Nat) {rs : List Row} {o : List Int} (D : DOk rs o) (n : Nat) : ∀ k,k + n = rs.length →
    exF LP share_division_fair.L0 [(1,.ptr 0 0 2),(6,.int .i64 (rs.length : Int)),(7,.int .i64 (k : Int))] [⟨[VL nl ex sz rs,IL nl' ex' sz' o],true⟩] =
      if fstI (fun j => decide (enI (vals rs) o j ≠ -1)) n k = -1 then some (.exit 0,[],[⟨[VL nl ex sz rs,IL nl' ex' sz' o],true⟩]) else some (.ret,[(2,.bool false)],[⟨[VL nl ex sz rs,IL nl' ex' sz' o],true⟩]) := by
  have h4 := D.le4
  induction n with
  | zero =>
    intro k hk
    rw [share_division_fair.L0_eq]
    simp only [share_division_fair.B0,exF_seq,exF_region,exF_cond,exF_exit,runL,wantL,stepL,evL,LEnv.at,putL,loadFine,LEnv.keep,List.map_cons,List.map_nil,nbeq,bin_lss,Nat.reduceEqDiff,decide_true,decide_false,cond_true,cond_false,if_true,eq_self,show ¬ ((k : Int) < (rs.length : Int)) by omega,fstI]
  | succ n ih =>
    intro k hk
    have h2 : k < rs.length := by omega
    have he := fun m => enemy_c nl ex nl' ex' sz sz' D k m
    rw [share_division_fair.L0_eq,fstI]
    by_cases h1 : enI (vals rs) o k = -1
    · simp only [share_division_fair.B0,exF_seq,exF_region,exF_block,exF_cond,exF_skip,runL,wantL,stepL,evL,evC,LEnv.at,putL,loadFine,loadL,cellsAt,Trk.calm,Trk.hit,LEnv.keep,List.map_cons,List.map_nil,nbeq,nble,ofAVs,bin_add,bin_neq,bin_lss,List.any_nil,Bool.or_false,Bool.or_true,Bool.and_true,Bool.false_and,Bool.not_true,Bool.not_false,Nat.reduceEqDiff,decide_true,decide_false,cond_true,cond_false,Nat.reduceAdd,Nat.reduceLeDiff,List.length_nil,List.length_cons,if_false,Bool.false_eq_true,eq_self,List.append_nil,List.nil_append,not_true_eq_false,ne_eq,List.getElem?_cons_zero,List.take_succ_cons,List.drop_zero,List.take_nil,Nat.le_refl,show ((k : Int) < (rs.length : Int)) by omega,he,h1,wrap_succ (show k + 1 < 9223372036854775808 by omega),ih (k + 1) (by omega)]
    · have hn : ¬ ((k : Int) = -1) := by omega
      simp only [share_division_fair.B0,exF_seq,exF_region,exF_block,exF_cond,exF_ret,exF_skip,runL,wantL,stepL,evL,evC,LEnv.at,putL,loadFine,loadL,cellsAt,Trk.calm,Trk.hit,LEnv.keep,List.map_cons,List.map_nil,nbeq,nble,ofAVs,bin_neq,bin_lss,List.any_nil,Bool.or_false,Bool.or_true,Bool.and_true,Bool.false_and,Bool.not_true,Bool.not_false,Nat.reduceEqDiff,decide_true,decide_false,cond_true,cond_false,Nat.reduceAdd,Nat.reduceLeDiff,List.length_nil,List.length_cons,if_true,if_false,eq_self,List.append_nil,List.nil_append,not_false_eq_true,ne_eq,List.getElem?_cons_zero,List.take_succ_cons,List.drop_zero,List.take_nil,Nat.le_refl,show ((k : Int) < (rs.length : Int)) by omega,he,h1,hn]
theorem fair_c (nl ex nl' ex' : Bool) (sz sz' : Nat) {rs : List Row} {o : List Int} (D : DOk rs o) (m : LMem) : clF LP n_share_division_fair [.agg [VL nl ex sz rs,IL nl' ex' sz' o]] m = some (.P,.bool (fairI (vals rs) o),m) := by
  have h := fair_loop nl ex nl' ex' sz sz' D rs.length 0 (by omega)
  unfold fairI
  rw [vals_length]
  simp only [Int.natCast_zero] at h
  by_cases hc : fstI (fun j => decide (enI (vals rs) o j ≠ -1)) rs.length 0 = -1
  · refine call_P lp_share_division_fair rfl (by simp [LV.pures,LV.pure]) (m1 := [⟨[VL nl ex sz rs,IL nl' ex' sz' o],true⟩]) ?_ rfl m
    rw [if_pos hc] at h
    simp only [ne_eq] at h hc
    simp only [share_division_fair,share_division_fair.B,exF_seq,exF_region,exF_block,exF_ret,runL,wantL,stepL,evL,evC,LEnv.at,putL,loadFine,loadL,cellsAt,Trk.putNew,Trk.up,Trk.touch,Trk.gives,Trk.calm,Trk.hit,opdsOf,Trk.fresh,LEnv.keep,LEnv.ofFrom,List.map_cons,List.map_nil,nbeq,nble,lenL,List.any_cons,List.any_nil,Bool.or_false,Bool.or_true,Bool.and_true,Bool.false_and,Bool.not_true,Bool.not_false,Nat.reduceEqDiff,decide_true,decide_false,cond_true,cond_false,List.filter_nil,Nat.reduceAdd,Nat.reduceLeDiff,reduceCtorEq,List.length_nil,List.length_cons,eq_self,retL,resultsL,resAllL,resOfL,List.nil_append,ne_eq,LV.cells,allocL,List.getElem?_cons_zero,List.take_zero,List.take_succ_cons,List.drop_zero,h,hc]
  · refine call_P lp_share_division_fair rfl (by simp [LV.pures,LV.pure]) (m1 := [⟨[VL nl ex sz rs,IL nl' ex' sz' o],true⟩]) ?_ rfl m
    rw [if_neg hc] at h
    simp only [ne_eq] at h hc
    simp only [share_division_fair,share_division_fair.B,exF_seq,exF_region,exF_block,runL,wantL,stepL,evL,evC,LEnv.at,putL,loadFine,loadL,cellsAt,Trk.putNew,Trk.up,Trk.touch,Trk.gives,Trk.calm,Trk.hit,opdsOf,Trk.fresh,LEnv.keep,LEnv.ofFrom,List.map_cons,List.map_nil,nbeq,nble,lenL,List.any_cons,List.any_nil,Bool.or_false,Bool.or_true,Bool.and_true,Bool.false_and,Bool.not_true,Bool.not_false,Nat.reduceEqDiff,decide_true,decide_false,cond_true,cond_false,List.filter_nil,Nat.reduceAdd,Nat.reduceLeDiff,reduceCtorEq,List.length_nil,List.length_cons,eq_self,retL,resultsL,resAllL,resOfL,List.nil_append,ne_eq,LV.cells,allocL,List.getElem?_cons_zero,List.take_zero,List.take_succ_cons,List.drop_zero,h,hc]
theorem views_d (m : LMem) (V : LV) (hV : V.pure = true) (i L g : Nat) (o : List Int) (b : Bool) (h : m[i]? = some ⟨o.map (LV.int .i64),b⟩) (hL : o.length = L) : views m [.agg [V,.sl i 0 L L g 1 L]] = some ([.agg [V,IL false (Nat.beq g 0) 1 o]],[i]) := by
  show viewL (86 + 13 + 1) m _ = _
  rw [viewL.eq_def]
  have hn : LV.pures [.agg [V,.sl i 0 L L g 1 L]] = false := by simp [LV.pures,LV.pure]
  simp only [hn,cond_false]
  rw [viewC.eq_def]
  have := view_d 85 m V hV i L g o b h hL
  simp only [this]
  rw [viewC.eq_def]
  rfl
theorem fair_m (nl ex : Bool) (sz : Nat) {rs : List Row} {o : List Int} (D : DOk rs o) {m : LMem} {i L : Nat} {b : Bool} (hb : m[i]? = some ⟨o.map (LV.int .i64),b⟩) (hL : o.length = L) : clF LP n_share_division_fair [.agg [VL nl ex sz rs,.sl i 0 L L 0 1 L]] m = some (.P,.bool (fairI (vals rs) o),m) :=
  call_view lp_share_division_fair rfl (views_d m (VL nl ex sz rs) rfl i L 0 o b hb hL) (by simp [LV.pures,LV.pure]) (fair_c nl ex false true sz 1 D []) rfl
abbrev PUT (c : Nat) : LV := .func n_share_each_1 [] [.ptr (c + 3) 0 2,.ptr c 0 1,.ptr (c + 4) 0 1]
def visC (V : List (List Int)) (s : Int) (o : List Int) : Int × Bool := (if fairI V o then IntKind.i64.wrap (s + 1) else s,true)
abbrev CM (V : LV) (L : Nat) (s : Int) (o : List Int) : LMem := [⟨[.int .i64 s],true⟩,⟨[.func n_share_Count_1 [] [.ptr 0 0 1]],true⟩,⟨[V,SLo 3 L],true⟩,⟨o.map (LV.int .i64),true⟩,⟨[V,SLo 3 L],true⟩,⟨[PUT 1],true⟩]
theorem dok_len {rs : List Row} {L : Nat} (D : VOk rs L) {o : List Int} (h : o.length = L) : DOk rs o := ⟨D.pos,D.le4,fun i hi => by rw [h,D.len i hi],D.ok,by rw [h]; exact D.le6⟩
theorem count1_c (nl ex : Bool) (sz : Nat) {rs : List Row} {L : Nat} (D : VOk rs L) (s : Int) (o : List Int) (ho : o.length = L) :
    clF LP n_share_Count_1 [.agg [VL nl ex sz rs,SLo 3 L],.ptr 0 0 1] (CM (VL nl ex sz rs) L s o) = some (.W,.bool true,CM (VL nl ex sz rs) L (visC (vals rs) s o).1 o) := by
  have hf := fair_m nl ex sz (dok_len D ho) (m := CM (VL nl ex sz rs) L s o ++ [⟨[VL nl ex sz rs,SLo 3 L],true⟩]) (i := 3) (b := true) rfl ho
  have hw : IntKind.i64.wrap (s + 1) = IntKind.i64.wrap (s + 1) := rfl
  rw [clF_eq,lp_share_Count_1]
  simp only [CM,List.cons_append,List.nil_append] at hf
  simp only [callMode,share_Count_1,visC]
  cases hc : fairI (vals rs) o
  · rw [hc] at hf
    simp only [share_Count_1.B,exF_seq,exF_region,exF_cond,exF_ret,exF_skip,runL,wantL,stepL,evL,evC,LEnv.at,putL,loadFine,loadL,cellsAt,Trk.calm,Trk.hit,LEnv.keep,LEnv.ofFrom,List.map_cons,List.map_nil,nbeq,nble,ofAVs,List.any_nil,Bool.or_false,Bool.or_true,Bool.and_true,Bool.false_and,Bool.not_true,Bool.not_false,Nat.reduceEqDiff,decide_true,decide_false,cond_true,cond_false,Nat.reduceAdd,Nat.reduceLeDiff,reduceCtorEq,List.length_nil,List.length_cons,if_false,Bool.false_eq_true,eq_self,retL,resultsL,resAllL,resOfL,List.append_nil,List.nil_append,List.cons_append,LV.cells,allocL,List.getElem?_cons_zero,List.getElem?_cons_succ,List.take_succ_cons,List.drop_zero,List.take_nil,Nat.le_refl,CM,hf]
    simp [trim,belowM,LV.unders,LV.under,unders_int,nblt]
  · rw [hc] at hf
    simp only [share_Count_1.B,exF_seq,exF_region,exF_cond,exF_ret,runL,wantL,stepL,evL,evC,LEnv.at,putL,loadFine,loadL,cellsAt,Trk.calm,Trk.hit,LEnv.keep,LEnv.ofFrom,List.map_cons,List.map_nil,nbeq,nble,ofAVs,bin_add,List.any_nil,Bool.or_false,Bool.or_true,Bool.and_true,Bool.false_and,Bool.not_true,Bool.not_false,Nat.reduceEqDiff,decide_true,decide_false,cond_true,cond_false,Nat.reduceAdd,Nat.reduceLeDiff,reduceCtorEq,List.length_nil,List.length_cons,if_true,eq_self,retL,resultsL,resAllL,resOfL,List.append_nil,List.nil_append,List.cons_append,LV.cells,allocL,List.getElem?_cons_zero,List.getElem?_cons_succ,storeL,spliceL,List.take_zero,List.take_succ_cons,List.drop_zero,List.drop_succ_cons,List.drop_nil,List.take_nil,Nat.le_refl,List.set_cons_zero,LV.scalar,List.all_cons,List.all_nil,CM,hf]
    simp [trim,belowM,LV.unders,LV.under,unders_int,nblt]
def XC (nl ex : Bool) (sz : Nat) {rs : List Row} {L : Nat} (D : VOk rs L) : Vis Int (VL nl ex sz rs) rs.length L where
  mem := CM (VL nl ex sz rs) L
  vis := visC (vals rs)
  good := fun _ => True
  f := n_share_Count_1
  first := []
  cap := [.ptr 0 0 1]
  d := 4
  b := 3
  iv := 1
  ip := 5
  hd := fun _ _ _ => rfl
  own := fun _ => true
  hown := fun _ _ => rfl
  hb := fun _ _ _ => rfl
  hv := fun _ _ _ => rfl
  hp := fun _ _ _ => rfl
  hset := fun _ _ _ _ _ _ => rfl
  htrim := fun _ _ _ _ _ _ _ _ => trim_le _ _ _ (by simp)
  hvis := fun s o _ ho => count1_c nl ex sz D s o ho
  hgood := fun _ _ _ _ _ => trivial
theorem each_count (nl ex : Bool) (sz : Nat) {rs : List Row} {L : Nat} (D : VOk rs L) :
    clF LP n_share_each [VL nl ex sz rs,.func n_share_Count_1 [] [.ptr 0 0 1]] [⟨[.int .i64 0],true⟩] = some (.W,.tup [],[⟨[.int .i64 (runV (visC (vals rs)) 0 (allR rs.length L)).1],true⟩]) := by
  have h0 : (nones L).length = L := by simp [nones]
  obtain ⟨o',q1,q2,q3⟩ := put_c nl ex sz D.le4 D.le6 (XC nl ex sz D) L 0 0 (nones L) (by omega) h0 trivial
  have hm : ((allR rs.length L).map fun q => (nones L).take 0 ++ q) = allR rs.length L := by simp
  rw [hm] at q3
  have hl := D.len 0 D.pos
  have he := fun m => empty_c nl ex sz rs D.pos (by rw [hl]; exact D.le6) m
  rw [hl] at he
  simp only [XC,CM,Int.natCast_zero] at q3
  rw [clF_eq,lp_share_each]
  simp only [callMode,share_each]
  simp only [share_each.B,exF_seq,exF_region,runL,wantL,stepL,evL,evC,LEnv.at,putL,loadFine,loadL,cellsAt,Trk.calm,Trk.hit,LEnv.keep,LEnv.ofFrom,List.map_cons,List.map_nil,nbeq,nble,ofAV,ofAVs,List.any_nil,Bool.or_false,Bool.or_true,Bool.and_true,Bool.false_and,Bool.not_true,Bool.not_false,Nat.reduceEqDiff,decide_true,decide_false,cond_true,cond_false,Nat.reduceAdd,Nat.reduceLeDiff,reduceCtorEq,List.length_nil,List.length_cons,eq_self,retL,resultsL,resAllL,List.append_nil,List.nil_append,List.cons_append,LV.cells,allocL,List.getElem?_cons_zero,List.getElem?_cons_succ,storeL,spliceL,List.take_zero,List.take_succ_cons,List.drop_zero,List.drop_succ_cons,List.drop_nil,List.take_nil,Nat.le_refl,List.set_cons_zero,List.set_cons_succ,LV.scalar,List.all_cons,List.all_nil,he,q3]
  simp [trim,belowM,LV.unders,LV.under]
def countV (V : List (List Int)) : Int := if chkV V = 0 then (runV (visC V) 0 (allR V.length (V.getD 0 []).length)).1 else 0
theorem countP_c (nl ex : Bool) (sz : Nat) (rs : List Row) (hl : rs.length < 1000000) (hr : ∀ r ∈ rs,r.l.length < 1000000) (m : LMem) : clF LP n_share_Count [VL nl ex sz rs] m = some (.P,.tup [.int .i64 (countV (vals rs)),.int .i64 (chkV (vals rs))],m) := by
  have hc := fun m => check_c nl ex sz rs hl hr m
  unfold countV
  by_cases h1 : chkV (vals rs) = 0
  · have D := vok_of h1
    rw [if_pos h1,vals_length]
    have he := each_count nl ex sz D
    refine call_P lp_share_Count rfl (by simp [LV.pures,LV.pure]) (m1 := [⟨[.int .i64 (runV (visC (vals rs)) 0 (allR rs.length ((vals rs).getD 0 []).length)).1],true⟩]) ?_ rfl m
    generalize (runV (visC (vals rs)) 0 (allR rs.length ((vals rs).getD 0 []).length)).1 = r at *
    simp only [share_Count,share_Count.B,exF_seq,exF_region,exF_cond,exF_ret,exF_skip,runL,wantL,stepL,evL,evC,LEnv.at,putL,loadFine,loadL,cellsAt,Trk.calm,Trk.hit,LEnv.keep,LEnv.ofFrom,List.map_cons,List.map_nil,nbeq,nble,ofAV,ofAVs,bin_neq,List.any_nil,Bool.or_false,Bool.or_true,Bool.and_true,Bool.false_and,Bool.not_true,Bool.not_false,Nat.reduceEqDiff,decide_true,decide_false,cond_true,cond_false,Nat.reduceAdd,Nat.reduceLeDiff,reduceCtorEq,List.length_nil,List.length_cons,eq_self,retL,resultsL,resAllL,resOfL,List.append_nil,List.nil_append,not_true_eq_false,ne_eq,LV.cells,allocL,List.getElem?_cons_zero,storeL,spliceL,List.take_zero,List.take_succ_cons,List.drop_zero,List.drop_succ_cons,List.drop_nil,List.take_nil,Nat.le_refl,List.set_cons_zero,LV.scalar,List.all_cons,List.all_nil,hc,h1,he]
  · rw [if_neg h1]
    refine call_P lp_share_Count rfl (by simp [LV.pures,LV.pure]) (m1 := []) ?_ rfl m
    simp only [share_Count,share_Count.B,exF_seq,exF_region,exF_cond,exF_ret,runL,wantL,stepL,evL,evC,LEnv.at,putL,loadFine,LEnv.keep,LEnv.ofFrom,List.map_cons,List.map_nil,nbeq,ofAVs,bin_neq,Nat.reduceEqDiff,decide_true,decide_false,cond_true,cond_false,reduceCtorEq,eq_self,retL,resultsL,resAllL,resOfL,List.append_nil,List.nil_append,not_false_eq_true,ne_eq,hc,h1]
end Go.Am.Share
