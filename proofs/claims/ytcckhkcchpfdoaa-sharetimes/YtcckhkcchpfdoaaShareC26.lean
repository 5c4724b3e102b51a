import Derived.Test.YtcckhkcchpfdoaaShareC17
import Derived.Test.YtcckhkcchpfdoaaShareWorks
set_option linter.unusedVariables false
set_option linter.unusedSimpArgs false
set_option maxRecDepth 10000
namespace Go.Am.Share
def allS (N : Nat) (P : List (List Int)) : List (List Int) := P.flatMap fun p => (List.range' 0 N).map fun j : Nat => p ++ [(j : Int)]
def allD (N : Nat) : Nat → List (List Int)
  | 0 => [[]]
  | t + 1 => allS N (allD N t)
theorem allS_length (N : Nat) : ∀ (P : List (List Int)),(allS N P).length = N * P.length
  | [] => by simp [allS]
  | p :: r => by
    have := allS_length N r
    unfold allS at this ⊢
    rw [List.flatMap_cons,List.length_append,this,List.length_map,List.length_range',List.length_cons]
    rw [Nat.mul_add,Nat.mul_one,Nat.add_comm]
theorem allD_length (N : Nat) : ∀ (t : Nat),(allD N t).length = N ^ t
  | 0 => rfl
  | t + 1 => by rw [allD,allS_length,allD_length N t,Nat.pow_succ,Nat.mul_comm]
theorem allD_mem (N : Nat) : ∀ (t : Nat),∀ q ∈ allD N t,q.length = t ∧ ∀ x ∈ q,0 ≤ x ∧ x < (N : Int)
  | 0,q,h => by simp [allD] at h; subst h; simp
  | t + 1,q,h => by
    simp only [allD,allS,List.mem_flatMap,List.mem_map,List.mem_range'] at h
    obtain ⟨p,hp,j,⟨i,hi,rfl⟩,rfl⟩ := h
    obtain ⟨a,b⟩ := allD_mem N t p hp
    refine ⟨by simp [a],fun x hx => ?_⟩
    rcases List.mem_append.1 hx with c | c
    · exact b x c
    · simp at c; omega
end Go.Am.Share
set_option linter.unusedVariables false
set_option linter.unusedSimpArgs false
set_option maxRecDepth 10000
namespace Go.Am.Share
def fairI (V : List (List Int)) (o : List Int) : Bool := decide (fstI (fun j => decide (enI V o j ≠ -1)) V.length 0 = -1)
theorem fair_loop (nl ex nl' ex' : Bool) (sz sz' : Nat) {rs : List Row} {o : List Int} (D : DOk rs o) (n : Nat) : ∀ k,k + n = rs.length →
    exF LP share_division_fair.L0 [(1,.ptr 0 0 2),(6,.int .i64 (rs.length : Int)),(7,.int .i64 (k : Int))] [⟨[VL nl ex sz rs,IL nl' ex' sz' o],true⟩] =
      if fstI (fun j => decide (enI (vals rs) o j ≠ -1)) n k = -1 then some (.exit 0,[],[⟨[VL nl ex sz rs,IL nl' ex' sz' o],true⟩]) else some (.ret,[(2,.bool false)],[⟨[VL nl ex sz rs,IL nl' ex' sz' o],true⟩]) := by
  have h4 := D.le4
  induction n with
  | zero =>
    intro k hk
    rw [share_division_fair.L0_eq]
    simp only [share_division_fair.B0,exF_seq,exF_region,exF_cond,exF_exit,runL,wantL,stepL,evL,LEnv.at,putL,loadFine,LEnv.keep,List.map_cons,List.map_nil,nbeq,bin_lss,Nat.reduceEqDiff,decide_true,decide_false,cond_true,cond_false,if_true,eq_self,show ¬ ((k : Int) < (rs.length : Int)) by omega,fstI]
  | succ n ih =>
    intro k hk
    have h2 : k < rs.length := by omega
    have he := fun m => enemy_c nl ex nl' ex' sz sz' D k m
    rw [share_division_fair.L0_eq,fstI]
    by_cases h1 : enI (vals rs) o k = -1
    · simp only [share_division_fair.B0,exF_seq,exF_region,exF_block,exF_cond,exF_skip,runL,wantL,stepL,evL,evC,LEnv.at,putL,loadFine,loadL,cellsAt,Trk.calm,Trk.hit,LEnv.keep,List.map_cons,List.map_nil,nbeq,nble,ofAVs,bin_add,bin_neq,bin_lss,List.any_nil,Bool.or_false,Bool.or_true,Bool.and_true,Bool.false_and,Bool.not_true,Bool.not_false,Nat.reduceEqDiff,decide_true,decide_false,cond_true,cond_false,Nat.reduceAdd,Nat.reduceLeDiff,List.length_nil,List.length_cons,if_false,Bool.false_eq_true,eq_self,List.append_nil,List.nil_append,not_true_eq_false,ne_eq,List.getElem?_cons_zero,List.take_succ_cons,List.drop_zero,List.take_nil,Nat.le_refl,show ((k : Int) < (rs.length : Int)) by omega,he,h1,wrap_succ (show k + 1 < 9223372036854775808 by omega),ih (k + 1) (by omega)]
    · have hn : ¬ ((k : Int) = -1) := by omega
      simp only [share_division_fair.B0,exF_seq,exF_region,exF_block,exF_cond,exF_ret,exF_skip,runL,wantL,stepL,evL,evC,LEnv.at,putL,loadFine,loadL,cellsAt,Trk.calm,Trk.hit,LEnv.keep,List.map_cons,List.map_nil,nbeq,nble,ofAVs,bin_neq,bin_lss,List.any_nil,Bool.or_false,Bool.or_true,Bool.and_true,Bool.false_and,Bool.not_true,Bool.not_false,Nat.reduceEqDiff,decide_true,decide_false,cond_true,cond_false,Nat.reduceAdd,Nat.reduceLeDiff,List.length_nil,List.length_cons,if_true,if_false,eq_self,List.append_nil,List.nil_append,not_false_eq_true,ne_eq,List.getElem?_cons_zero,List.take_succ_cons,List.drop_zero,List.take_nil,Nat.le_refl,show ((k : Int) < (rs.length : Int)) by omega,he,h1,hn]
theorem fair_c (nl ex nl' ex' : Bool) (sz sz' : Nat) {rs : List Row} {o : List Int} (D : DOk rs o) (m : LMem) : clF LP n_share_division_fair [.agg [VL nl ex sz rs,IL nl' ex' sz' o]] m = some (.P,.bool (fairI (vals rs) o),m) := by
  have h := fair_loop nl ex nl' ex' sz sz' D rs.length 0 (by omega)
  unfold fairI
  rw [vals_length]
  simp only [Int.natCast_zero] at h
  by_cases hc : fstI (fun j => decide (enI (vals rs) o j ≠ -1)) rs.length 0 = -1
  · refine call_P lp_share_division_fair rfl (by simp [LV.pures,LV.pure]) (m1 := [⟨[VL nl ex sz rs,IL nl' ex' sz' o],true⟩]) ?_ rfl m
    rw [if_pos hc] at h
    simp only [ne_eq] at h hc
    simp only [share_division_fair,share_division_fair.B,exF_seq,exF_region,exF_block,exF_ret,runL,wantL,stepL,evL,evC,LEnv.at,putL,loadFine,loadL,cellsAt,Trk.putNew,Trk.up,Trk.touch,Trk.gives,Trk.calm,Trk.hit,opdsOf,Trk.fresh,LEnv.keep,LEnv.ofFrom,List.map_cons,List.map_nil,nbeq,nble,lenL,List.any_cons,List.any_nil,Bool.or_false,Bool.or_true,Bool.and_true,Bool.false_and,Bool.not_true,Bool.not_false,Nat.reduceEqDiff,decide_true,decide_false,cond_true,cond_false,List.filter_nil,Nat.reduceAdd,Nat.reduceLeDiff,reduceCtorEq,List.length_nil,List.length_cons,eq_self,retL,resultsL,resAllL,resOfL,List.nil_append,ne_eq,LV.cells,allocL,List.getElem?_cons_zero,List.take_zero,List.take_succ_cons,List.drop_zero,h,hc]
  · refine call_P lp_share_division_fair rfl (by simp [LV.pures,LV.pure]) (m1 := [⟨[VL nl ex sz rs,IL nl' ex' sz' o],true⟩]) ?_ rfl m
    rw [if_neg hc] at h
    simp only [ne_eq] at h hc
    simp only [share_division_fair,share_division_fair.B,exF_seq,exF_region,exF_block,runL,wantL,stepL,evL,evC,LEnv.at,putL,loadFine,loadL,cellsAt,Trk.putNew,Trk.up,Trk.touch,Trk.gives,Trk.calm,Trk.hit,opdsOf,Trk.fresh,LEnv.keep,LEnv.ofFrom,List.map_cons,List.map_nil,nbeq,nble,lenL,List.any_cons,List.any_nil,Bool.or_false,Bool.or_true,Bool.and_true,Bool.false_and,Bool.not_true,Bool.not_false,Nat.reduceEqDiff,decide_true,decide_false,cond_true,cond_false,List.filter_nil,Nat.reduceAdd,Nat.reduceLeDiff,reduceCtorEq,List.length_nil,List.length_cons,eq_self,retL,resultsL,resAllL,resOfL,List.nil_append,ne_eq,LV.cells,allocL,List.getElem?_cons_zero,List.take_zero,List.take_succ_cons,List.drop_zero,h,hc]
theorem views_d (m : LMem) (V : LV) (hV : V.pure = true) (i L g : Nat) (o : List Int) (b : Bool) (h : m[i]? = some ⟨o.map (LV.int .i64),b⟩) (hL : o.length = L) : views m [.agg [V,.sl i 0 L L g 1 L]] = some ([.agg [V,IL false (Nat.beq g 0) 1 o]],[i]) := by
  show viewL (86 + 13 + 1) m _ = _
  rw [viewL.eq_def]
  have hn : LV.pures [.agg [V,.sl i 0 L L g 1 L]] = false := by simp [LV.pures,LV.pure]
  simp only [hn,cond_false]
  rw [viewC.eq_def]
  have := view_d 85 m V hV i L g o b h hL
  simp only [this]
  rw [viewC.eq_def]
  rfl
theorem fair_m (nl ex : Bool) (sz : Nat) {rs : List Row} {o : List Int} (D : DOk rs o) {m : LMem} {i L : Nat} {b : Bool} (hb : m[i]? = some ⟨o.map (LV.int .i64),b⟩) (hL : o.length = L) : clF LP n_share_division_fair [.agg [VL nl ex sz rs,.sl i 0 L L 0 1 L]] m = some (.P,.bool (fairI (vals rs) o),m) :=
  call_view lp_share_division_fair rfl (views_d m (VL nl ex sz rs) rfl i L 0 o b hb hL) (by simp [LV.pures,LV.pure]) (fair_c nl ex false true sz 1 D []) rfl
abbrev PUT (c : Nat) : LV := .func n_share_each_1 [] [.ptr (c + 3) 0 2,.ptr c 0 1,.ptr (c + 4) 0 1]
theorem dok_len {rs : List Row} {L : Nat} (D : VOk rs L) {o : List Int} (h : o.length = L) : DOk rs o := ⟨D.pos,D.le4,fun i hi => by rw [h,D.len i hi],D.ok,by rw [h]; exact D.le6⟩
end Go.Am.Share
