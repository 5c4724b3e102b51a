import Derived.Test.YtoppeojgadbjeaaTopC18
set_option linter.unusedVariables false
set_option linter.unusedSimpArgs false
set_option maxRecDepth 10000
namespace Go.Am.Top
open Go.Am.G
theorem len_c (n : Nat) (h : n ≤ 12) : ∃ r : Int,∀ m,clF LP n_math_bits_Len [.int .u64 (n : Int)] m = some (.P,.int .i64 r,m) := by
  have k : n = 0 ∨ n = 1 ∨ n = 2 ∨ n = 3 ∨ n = 4 ∨ n = 5 ∨ n = 6 ∨ n = 7 ∨ n = 8 ∨ n = 9 ∨ n = 10 ∨ n = 11 ∨ n = 12 := by omega
  rcases k with rfl | rfl | rfl | rfl | rfl | rfl | rfl | rfl | rfl | rfl | rfl | rfl | rfl
  · exact ⟨0,fun m => call_ran (n := 30) lp_math_bits_Len rfl (by kernel_rfl) (m' := []) (by kernel_rfl) m⟩
  · exact ⟨1,fun m => call_ran (n := 30) lp_math_bits_Len rfl (by kernel_rfl) (m' := []) (by kernel_rfl) m⟩
  · exact ⟨2,fun m => call_ran (n := 30) lp_math_bits_Len rfl (by kernel_rfl) (m' := []) (by kernel_rfl) m⟩
  · exact ⟨2,fun m => call_ran (n := 30) lp_math_bits_Len rfl (by kernel_rfl) (m' := []) (by kernel_rfl) m⟩
  · exact ⟨3,fun m => call_ran (n := 30) lp_math_bits_Len rfl (by kernel_rfl) (m' := []) (by kernel_rfl) m⟩
  · exact ⟨3,fun m => call_ran (n := 30) lp_math_bits_Len rfl (by kernel_rfl) (m' := []) (by kernel_rfl) m⟩
  · exact ⟨3,fun m => call_ran (n := 30) lp_math_bits_Len rfl (by kernel_rfl) (m' := []) (by kernel_rfl) m⟩
  · exact ⟨3,fun m => call_ran (n := 30) lp_math_bits_Len rfl (by kernel_rfl) (m' := []) (by kernel_rfl) m⟩
  · exact ⟨4,fun m => call_ran (n := 30) lp_math_bits_Len rfl (by kernel_rfl) (m' := []) (by kernel_rfl) m⟩
  · exact ⟨4,fun m => call_ran (n := 30) lp_math_bits_Len rfl (by kernel_rfl) (m' := []) (by kernel_rfl) m⟩
  · exact ⟨4,fun m => call_ran (n := 30) lp_math_bits_Len rfl (by kernel_rfl) (m' := []) (by kernel_rfl) m⟩
  · exact ⟨4,fun m => call_ran (n := 30) lp_math_bits_Len rfl (by kernel_rfl) (m' := []) (by kernel_rfl) m⟩
  · exact ⟨4,fun m => call_ran (n := 30) lp_math_bits_Len rfl (by kernel_rfl) (m' := []) (by kernel_rfl) m⟩
theorem sort_c (m : LMem) (v : LV) (l : List Nat) (h : Qu m v (ci l)) (hn : l.length ≤ 12) :
    ∃ l' m',clF LP n_slices_Sort_int_int [v] m = some (.W,.tup [],m') ∧ l'.Perm l ∧ (l.length ≠ 0 → SrtI l' (l.length - 1)) ∧ Qu m' v (ci l') ∧ (∀ i,¬ isBlk v i → m'[i]? = m[i]?) := by
  obtain ⟨r,hlen⟩ := len_c l.length hn
  have hcl : (ci l).length = l.length := by simp
  have hw64 : IntKind.u64.wrap (l.length : Int) = (l.length : Int) := IntWalk.u64_in _ (by omega)
  have hsub : IntKind.i64.wrap ((l.length : Int) - 0) = (l.length : Int) := by rw [wrap_in (by omega)]; omega
  have fin : ∀ m',m'.length = m.length → retL slices_insertionSortOrdered_int.results (exF LP slices_insertionSortOrdered_int.body (LEnv.ofFrom 0 [v,.int .i64 0,.int .i64 (l.length : Int)]) m) = some (.tup [],m') → clF LP n_slices_Sort_int_int [v] m = some (.W,.tup [],m') := by
    intro m' hl k
    have c1 := call_W lp_slices_insertionSortOrdered_int rfl k
    rw [trim_le _ _ _ (by omega)] at c1
    have hql := h.lenL
    rw [hcl] at hql
    have k2 : retL slices_pdqsortOrdered_int.results (exF LP slices_pdqsortOrdered_int.body (LEnv.ofFrom 0 [v,.int .i64 0,.int .i64 (l.length : Int),.int .i64 r]) m) = some (.tup [],m') := by
      simp only [slices_pdqsortOrdered_int,slices_pdqsortOrdered_int.B,slices_pdqsortOrdered_int.L0_eq,slices_pdqsortOrdered_int.B0,exF_seq,exF_region,exF_block,exF_cond,exF_ret,runL,wantL,stepL,evL,evC,LEnv.at,putL,loadFine,LEnv.keep,LEnv.ofFrom,List.map_cons,List.map_nil,nbeq,ofAVs,bin_sub,bin_leq,Nat.reduceEqDiff,decide_true,decide_false,cond_true,cond_false,Nat.reduceAdd,reduceCtorEq,eq_self,retL,resultsL,resAllL,List.append_nil,List.nil_append,hsub,show (l.length : Int) ≤ 12 by omega,c1]
    have c2 := call_W lp_slices_pdqsortOrdered_int rfl k2
    rw [trim_le _ _ _ (by omega)] at c2
    have k3 : retL slices_Sort_int_int.results (exF LP slices_Sort_int_int.body (LEnv.ofFrom 0 [v]) m) = some (.tup [],m') := by
      simp only [slices_Sort_int_int,slices_Sort_int_int.B,exF_seq,exF_region,runL,wantL,stepL,evL,evC,LEnv.at,putL,loadFine,LEnv.keep,LEnv.ofFrom,List.map_cons,List.map_nil,nbeq,ofAVs,Nat.reduceEqDiff,decide_true,decide_false,cond_true,cond_false,reduceCtorEq,eq_self,retL,resultsL,resAllL,List.append_nil,List.nil_append,hql,hw64,hlen,c2]
    have c3 := call_W lp_slices_Sort_int_int rfl k3
    rw [trim_le _ _ _ (by omega)] at c3
    exact c3
  rcases h with ⟨nl,ex,z,rfl,w1,w2,w3,w4⟩ | ⟨b,o,cs,rfl,w1,w2,w4,w5⟩
  · rw [hcl] at w4
    refine ⟨l,m,fin m rfl ?_,.refl _,fun h0 p q hpq hq => by omega,.inl ⟨nl,ex,z,rfl,w1,w2,w3,by rw [hcl]; exact w4⟩,fun _ _ => rfl⟩
    have hw1 : IntKind.i64.wrap (0 + 1) = 1 := rfl
    simp only [slices_insertionSortOrdered_int,slices_insertionSortOrdered_int.B,slices_insertionSortOrdered_int.L1_eq,slices_insertionSortOrdered_int.B1,exF_seq,exF_region,exF_block,exF_cond,exF_exit,runL,wantL,stepL,evL,evC,LEnv.at,putL,loadFine,LEnv.keep,LEnv.ofFrom,List.map_cons,List.map_nil,nbeq,bin_add,bin_lss,Nat.reduceEqDiff,decide_true,decide_false,cond_true,cond_false,Nat.reduceAdd,reduceCtorEq,eq_self,retL,resultsL,resAllL,hw1,show ¬ (1 : Int) < (l.length : Int) by omega]
  · have hb := (List.getElem?_eq_some_iff.1 w1).1
    rw [hcl] at w4
    have hpl : (cs.take o).length = o := by simp; omega
    have hcs : cs = cs.take o ++ (ci l).map (LV.int .i64) := by rw [← w2,List.take_append_drop]
    have hM : m = SM m b (cs.take o) l := by
      apply List.ext_getElem?
      intro i
      rw [List.getElem?_set]
      by_cases c : b = i
      · subst c; rw [if_pos rfl,if_pos hb,w1,← hcs]
      · rw [if_neg c]
    obtain ⟨l',k1,k2,k3⟩ := sort_loop m b hb (cs.take o) l.length cs.length (by omega) (by rw [hpl]; omega) (l.length - 1) 1 l (by omega) (by omega) rfl (fun p q hpq hq => by omega)
    have hl' := k2.length_eq
    refine ⟨l',SM m b (cs.take o) l',fin _ (by simp [SM]) ?_,k2,k3,.inr ⟨b,o,cs.take o ++ (ci l').map (LV.int .i64),?_,set_got _ _ _ hb,?_,?_,?_⟩,fun i hi => set_get _ _ _ _ fun e => hi (by rw [← e]; rfl)⟩
    · have hw1 : IntKind.i64.wrap (0 + 1) = ((1 : Nat) : Int) := rfl
      rw [← hM,hpl] at k1
      rw [hcl]
      simp only [slices_insertionSortOrdered_int,slices_insertionSortOrdered_int.B,exF_seq,exF_region,exF_block,runL,wantL,stepL,evL,evC,LEnv.at,putL,loadFine,LEnv.keep,LEnv.ofFrom,List.map_cons,List.map_nil,nbeq,bin_add,Nat.reduceEqDiff,decide_true,decide_false,cond_true,cond_false,Nat.reduceAdd,reduceCtorEq,eq_self,retL,resultsL,resAllL,hw1,k1]
    · congr 1
      · simp [hl']
      · simp [hl']
      · rw [List.length_append,List.length_map,hpl]; simp [hl']; omega
    · rw [List.drop_append,hpl]
      have : (cs.take o).drop o = [] := List.drop_eq_nil_of_le (by omega)
      rw [this]; simp
    · rw [List.length_append,List.length_map,hpl]; simp
    · rw [List.length_append,List.length_map,hpl]; simp [hl']; omega
theorem Qu.view {m : LMem} {v : LV} {T : List Int} (h : Qu m v T) (hT : T ≠ []) : ∃ ex ids,∀ k,view (k + 3) m v = some (IL false ex 1 T,ids) := by
  rcases h with ⟨nl,ex,z,rfl,w1,w2,w3,w4⟩ | ⟨b,o,cs,rfl,w1,w2,w4,w5⟩
  · have hnl : nl = false := by
      cases nl
      · rfl
      · exact absurd (w3 rfl) hT
    subst hnl
    have hz : z = 1 := by rcases w2 with e | e; exact absurd e hT; exact e
    subst hz
    exact ⟨ex,[],fun k => by simp only [Go.Am.view]⟩
  · refine ⟨false,[b],fun k => ?_⟩
    have htk : (cs.drop o).take (T.length * 1) = T.map (LV.int .i64) := by rw [w2,List.take_of_length_le (by simp)]
    have := view_slc k m b o T.length cs.length 1 T.length 1 cs true w1 (by rw [htk]; exact pures_int _ _) rfl (by omega) (Nat.le_refl _)
    rw [this,htk]
    simp [nbeq]
theorem srt_lt {l : List Nat} (hn : l.Nodup) (h : l.length ≠ 0 → SrtI l (l.length - 1)) : ∀ i (hi : i + 1 < l.length),l[i] < l[i + 1] := by
  intro i hi
  have h1 := h (by omega) i (i + 1) (by omega) (by omega)
  have e1 : l.getD i 0 = l[i] := by simp [show i < l.length by omega]
  have e2 : l.getD (i + 1) 0 = l[i + 1] := by simp [hi]
  have hne : l[i] ≠ l[i + 1] := fun e => by
    have a1 := hn.idxOf_getElem i (by omega)
    have a2 := hn.idxOf_getElem (i + 1) hi
    rw [e] at a1
    omega
  omega
theorem flood_c {r c : Nat} {hs : List Int} (S : Sho r c hs) (hN : hs.length ≤ 12) (nl ex : Bool) (sz : Nat) (g : Nat) (first cap : List LV) (hpu : LV.pure (.func g first cap) = true) (may : Nat → Bool) (hmay : MayF g first cap hs.length may) (p : Nat) (hp : p < hs.length) (hm : may p = true) :
    ∃ (l : List Nat) (ex' : Bool),(∀ m,clF LP n_ebb_Shore_flood [.agg (SH r c nl ex sz hs),.int .i64 (p : Int),.func g first cap] m = some (.P,IL false ex' 1 (ci l),m)) ∧ l ≠ [] ∧ (∀ i (hi : i + 1 < l.length),l[i] < l[i + 1]) ∧ ∀ x,x ∈ l ↔ Rch c hs.length may p x := by
  have hcall := hmay p hp
  rw [hm] at hcall
  simp only [List.cons_append,List.nil_append] at hcall
  have hr := fun m => river_c r c hs nl ex sz m
  have hwN : IntKind.i64.wrap ((hs.length : Int) + 1) = ((hs.length + 1 : Nat) : Int) := by rw [wrap_in (by omega)]; omega
  -- the memory at the start
  have hF0 : FM r c nl ex sz hs (.func g first cap) (.lst false true 1 1 [.int .i64 (p : Int)]) (.lst false true 1 1 [.int .i64 (p : Int)]) ⟨[p],[p]⟩
      [⟨SH r c nl ex sz hs,true⟩,⟨[.func g first cap],true⟩,⟨(mets hs.length [p]).map LV.bool,true⟩,⟨[.sl 2 0 (hs.length + 1) (hs.length + 1) 0 1 (hs.length + 1)],true⟩,⟨[.lst false true 1 1 [.int .i64 (p : Int)]],true⟩,⟨[.lst false true 1 1 [.int .i64 (p : Int)]],true⟩] := by
    refine ⟨rfl,rfl,rfl,rfl,rfl,rfl,.inl ⟨false,true,1,rfl,.inr rfl,.inr rfl,(fun h => by cases h),by simp⟩,.inl ⟨false,true,1,rfl,.inr rfl,.inr rfl,(fun h => by cases h),by simp⟩,fun i hi => by simp [isBlk] at hi,fun i hi => by simp [isBlk] at hi,fun i hi => by simp [isBlk] at hi,⟨by simp,fun x hx => ?_⟩,⟨by simp,fun x hx => hx⟩⟩
    rw [List.mem_singleton.1 hx]; exact hp
  have hI0 : FI may c hs.length p ⟨[p],[p]⟩ := by
    refine ⟨fun x hx => hx,by simp,fun x hx => ?_,by simp,fun x hx hx2 => absurd hx hx2⟩
    rw [List.mem_singleton.1 hx]; exact .here
  obtain ⟨O,m1,vT,vO,k1,k2,k3⟩ := flood_loop S nl ex sz g first cap may hmay p _ ⟨[p],[p]⟩ _ _ _ hF0 hI0 (Nat.le_refl _)
  have hO := k2.lenO
  simp only at hO
  obtain ⟨l,m2,s1,s2,s3,s4,s5⟩ := sort_c m1 vO O k2.qO (by omega)
  have hOne : O ≠ [] := fun e => by have := k3.has; rw [e] at this; simp at this
  have hlne : l ≠ [] := fun e => by have := s2.length_eq; rw [e] at this; exact hOne (List.length_eq_zero_iff.1 this.symm)
  obtain ⟨ex',ids,hv⟩ := s4.view (by simpa [ci] using hlne)
  have h5 := k2.m5
  have h52 : m2[5]? = some ⟨[vO],true⟩ := (s5 5 fun c => by have := k2.bO 5 c; omega).trans h5
  refine ⟨l,ex',fun m => ?_,hlne,srt_lt (s2.nodup_iff.2 k2.okO.1) (by rw [s2.length_eq]; exact s3),fun x => (s2.mem_iff).trans (k3.done x)⟩
  refine call_Pv lp_ebb_Shore_flood rfl (by simp only [LV.pures,hpu]; simp [LV.pures,LV.pure]) (m1 := m2) (v := vO) ?_ (hv 97) m
  have hst := set_bool (List.replicate (hs.length + 1) false) p true (by simp; omega)
  have hmt : (List.replicate (hs.length + 1) false).set p true = mets hs.length [p] := by
    have := mets_set hs.length [] p (by omega)
    rw [← List.nil_append [p],← this]
    congr 1
    apply List.ext_getElem?
    intro i
    by_cases hi : i < hs.length + 1 <;> simp [mets,hi]
  rw [hmt] at hst
  have hr1 : hs.length + 1 ≤ roomMost := by unfold roomMost; omega
  have hzl : ((List.replicate (hs.length + 1) false).map LV.bool).length = hs.length + 1 := by simp
  simp only [und,tlF,List.map_cons,List.map_nil] at k1
  simp only [ebb_Shore_flood,ebb_Shore_flood.B,exF_seq,exF_region,exF_block,exF_cond,exF_ret,exF_skip,runL,wantL,stepL,evL,evC,LEnv.at,putL,loadFine,loadL,cellsAt,Trk.calm,Trk.hit,LEnv.keep,LEnv.ofFrom,List.map_cons,List.map_nil,nbeq,nble,nblt,ofAV,ofAVs,bin_add,natL_nat,List.any_nil,Bool.or_false,Bool.false_or,Bool.true_or,Bool.or_true,Bool.and_true,Bool.false_and,Bool.not_true,Bool.not_false,Nat.reduceEqDiff,decide_true,decide_false,cond_true,cond_false,Nat.reduceAdd,Nat.reduceLeDiff,reduceCtorEq,List.length_nil,List.length_cons,Nat.mul_one,eq_self,retL,resultsL,resAllL,resOfL,List.append_nil,List.nil_append,List.cons_append,unL,views_pures,LV.pures,LV.pure,freeze,Nat.reduceDiv,LV.cells,allocL,List.getElem?_cons_zero,List.getElem?_cons_succ,storeL,spliceL,List.take_zero,List.take_succ_cons,List.drop_zero,List.drop_succ_cons,List.drop_nil,List.take_nil,Nat.le_refl,List.set_cons_zero,List.set_cons_succ,LV.scalar,List.all_cons,List.all_nil,fillL,hcall,hr,hwN,initS,hr1,hzl,hst,show p < hs.length + 1 by omega,show p + 1 ≤ hs.length + 1 by omega,Nat.zero_add,k1,h5,s1,h52]
theorem flood_no {r c : Nat} {hs : List Int} (nl ex : Bool) (sz : Nat) (g : Nat) (first cap : List LV) (hpu : LV.pure (.func g first cap) = true) (may : Nat → Bool) (hmay : MayF g first cap hs.length may) (p : Nat) (hp : p < hs.length) (hm : may p = false) (m : LMem) :
    clF LP n_ebb_Shore_flood [.agg (SH r c nl ex sz hs),.int .i64 (p : Int),.func g first cap] m = some (.P,.lst true true 0 0 [],m) := by
  have hcall := hmay p hp
  rw [hm] at hcall
  simp only [List.cons_append,List.nil_append] at hcall
  refine call_P lp_ebb_Shore_flood rfl (by simp only [LV.pures,hpu]; simp [LV.pures,LV.pure]) (m1 := [⟨SH r c nl ex sz hs,true⟩,⟨[.func g first cap],true⟩]) ?_ rfl m
  simp only [ebb_Shore_flood,ebb_Shore_flood.B,exF_seq,exF_region,exF_cond,exF_ret,runL,wantL,stepL,evL,evC,LEnv.at,putL,loadFine,loadL,cellsAt,Trk.calm,Trk.hit,LEnv.keep,LEnv.ofFrom,List.map_cons,List.map_nil,nbeq,nble,List.any_nil,Bool.or_false,Bool.or_true,Bool.and_true,Bool.false_and,Bool.not_true,Bool.not_false,Nat.reduceEqDiff,decide_true,decide_false,cond_true,cond_false,Nat.reduceAdd,Nat.reduceLeDiff,reduceCtorEq,List.length_nil,List.length_cons,eq_self,retL,resultsL,resAllL,resOfL,List.nil_append,List.cons_append,unL,LV.cells,allocL,List.getElem?_cons_zero,List.getElem?_cons_succ,List.take_succ_cons,List.drop_zero,List.take_nil,Nat.le_refl,hcall]
end Go.Am.Top
set_option linter.unusedVariables false
set_option linter.unusedSimpArgs false
set_option maxRecDepth 10000
namespace Go.Am.Top
open Go.Am.G
theorem cloneI_m {args : List LV} {ids : List Nat} {m : LMem} (ex : Bool) (l : List Int) (hl : l.length < 1000) (hne : l ≠ []) (hv : views m args = some ([IL false ex 1 l],ids)) : clF LP n_slices_Clone_int_int args m = some (.O,.sl m.length 0 l.length l.length 1 1 l.length,m ++ [⟨l.map (LV.int .i64),true⟩]) := by
  have h0 : ¬ l.length = 0 := by simpa using hne
  have hr1 : l.length * 8 ≤ roomMost := by unfold roomMost; omega
  have hr2 : l.length ≤ roomMost := by unfold roomMost; omega
  rw [clF_eq,lp_slices_Clone_int_int]
  simp only [callMode,slices_Clone_int_int,hv]
  simp only [slices_Clone_int_int.B,beqT,beqF,exF_seq,exF_region,exF_block,exF_cond,exF_ret,exF_exit,exF_skip,runL,wantL,stepL,evL,evC,LEnv.at,putL,loadFine,loadL,cellsAt,Trk.putNew,Trk.up,Trk.touch,Trk.gives,Trk.calm,Trk.hit,opdsOf,Trk.fresh,LEnv.keep,LEnv.ofFrom,List.map_cons,List.map_nil,nbeq,nble,nblt,ofAV,ofAVs,lenL,bin_add,bin_sub,bin_mul,bin_eql,bin_neq,bin_lss,bin_leq,bin_gtr,bin_geq,natL_nat,natL_zero,natL_one,natL_two,Nat.zero_mul,List.any_cons,List.any_nil,Bool.or_false,Bool.false_or,Bool.true_or,Bool.or_true,Bool.and_true,Bool.true_and,Bool.and_false,Bool.false_and,Bool.not_true,Bool.not_false,Nat.reduceBEq,Nat.reduceEqDiff,decide_true,decide_false,cond_true,cond_false,List.filter_nil,List.filter_cons,Nat.reduceAdd,Nat.reduceLeDiff,reduceCtorEq,List.length_nil,List.length_cons,Nat.mul_one,if_true,if_false,Bool.false_eq_true,eq_self,and_true,true_and,retL,resultsL,resAllL,resOfL,List.append_nil,List.nil_append,List.cons_append,true_or,or_true,false_or,or_false,false_and,and_false,not_true_eq_false,not_false_eq_true,ne_eq,unL,trim_nil,views_pures,LV.pures,LV.pure,freeze,Nat.reduceDiv,Int.reduceEq,Int.reduceLT,Int.reduceLE,Int.natCast_zero,LV.cells,allocL,List.getElem?_cons_zero,List.getElem?_cons_succ,storeL,spliceL,List.take_zero,List.take_succ_cons,List.drop_zero,List.drop_succ_cons,List.drop_nil,List.take_nil,Nat.le_refl,Nat.reduceMul,List.set_cons_zero,List.set_cons_succ,LV.scalar,List.all_cons,List.all_nil,Nat.lt_add_one,Nat.zero_lt_one,Nat.reduceLT,Nat.lt_irrefl,fillL,List.length_append,foldIntL,kind_beq,pures_int,solids_int,plains_int,unders_int,scalars_int,nilOf,eqsL,Bool.xor_false,Bool.false_xor,Bool.xor_true,LV.shift,newOnly,LV.solid,freeze,appendL,contents,views,viewL,h0,hr1,hr2,newSl,Nat.zero_add,shifts_int,hne]
theorem basin1_may (r c : Nat) (hs : List Int) (nl ex : Bool) (sz : Nat) (high : Int) : MayF n_ebb_Basin_1 [] [.elt (SH r c nl ex sz hs) 0,.elt [.int .i64 high] 0] hs.length (fun x => decide (hs.getD x 0 < high)) := by
  intro x hx m
  have hat := int_at .i64 hs x hx
  refine call_P lp_ebb_Basin_1 rfl (by simp [LV.pures,LV.pure,pures_int]) (m1 := []) ?_ rfl m
  simp only [getD_at hx]
  by_cases h : hs[x] < high
  · simp only [ebb_Basin_1,ebb_Basin_1.B,beqT,beqF,exF_seq,exF_region,exF_block,exF_cond,exF_ret,exF_exit,exF_skip,runL,wantL,stepL,evL,evC,LEnv.at,putL,loadFine,loadL,cellsAt,Trk.putNew,Trk.up,Trk.touch,Trk.gives,Trk.calm,Trk.hit,opdsOf,Trk.fresh,LEnv.keep,LEnv.ofFrom,List.map_cons,List.map_nil,nbeq,nble,nblt,ofAV,ofAVs,lenL,bin_add,bin_sub,bin_mul,bin_eql,bin_neq,bin_lss,bin_leq,bin_gtr,bin_geq,natL_nat,natL_zero,natL_one,natL_two,Nat.zero_mul,List.any_cons,List.any_nil,Bool.or_false,Bool.false_or,Bool.true_or,Bool.or_true,Bool.and_true,Bool.true_and,Bool.and_false,Bool.false_and,Bool.not_true,Bool.not_false,Nat.reduceBEq,Nat.reduceEqDiff,decide_true,decide_false,cond_true,cond_false,List.filter_nil,List.filter_cons,Nat.reduceAdd,Nat.reduceLeDiff,reduceCtorEq,List.length_nil,List.length_cons,Nat.mul_one,if_true,if_false,Bool.false_eq_true,eq_self,and_true,true_and,retL,resultsL,resAllL,resOfL,List.append_nil,List.nil_append,List.cons_append,true_or,or_true,false_or,or_false,false_and,and_false,not_true_eq_false,not_false_eq_true,ne_eq,unL,trim_nil,views_pures,LV.pures,LV.pure,freeze,Nat.reduceDiv,Int.reduceEq,Int.reduceLT,Int.reduceLE,Int.natCast_zero,LV.cells,allocL,List.getElem?_cons_zero,List.getElem?_cons_succ,storeL,spliceL,List.take_zero,List.take_succ_cons,List.drop_zero,List.drop_succ_cons,List.drop_nil,List.take_nil,Nat.le_refl,Nat.reduceMul,List.set_cons_zero,List.set_cons_succ,LV.scalar,List.all_cons,List.all_nil,Nat.lt_add_one,Nat.zero_lt_one,Nat.reduceLT,Nat.lt_irrefl,fillL,List.length_append,foldIntL,kind_beq,pures_int,solids_int,plains_int,unders_int,scalars_int,hx,hat,h]
  · simp only [ebb_Basin_1,ebb_Basin_1.B,beqT,beqF,exF_seq,exF_region,exF_block,exF_cond,exF_ret,exF_exit,exF_skip,runL,wantL,stepL,evL,evC,LEnv.at,putL,loadFine,loadL,cellsAt,Trk.putNew,Trk.up,Trk.touch,Trk.gives,Trk.calm,Trk.hit,opdsOf,Trk.fresh,LEnv.keep,LEnv.ofFrom,List.map_cons,List.map_nil,nbeq,nble,nblt,ofAV,ofAVs,lenL,bin_add,bin_sub,bin_mul,bin_eql,bin_neq,bin_lss,bin_leq,bin_gtr,bin_geq,natL_nat,natL_zero,natL_one,natL_two,Nat.zero_mul,List.any_cons,List.any_nil,Bool.or_false,Bool.false_or,Bool.true_or,Bool.or_true,Bool.and_true,Bool.true_and,Bool.and_false,Bool.false_and,Bool.not_true,Bool.not_false,Nat.reduceBEq,Nat.reduceEqDiff,decide_true,decide_false,cond_true,cond_false,List.filter_nil,List.filter_cons,Nat.reduceAdd,Nat.reduceLeDiff,reduceCtorEq,List.length_nil,List.length_cons,Nat.mul_one,if_true,if_false,Bool.false_eq_true,eq_self,and_true,true_and,retL,resultsL,resAllL,resOfL,List.append_nil,List.nil_append,List.cons_append,true_or,or_true,false_or,or_false,false_and,and_false,not_true_eq_false,not_false_eq_true,ne_eq,unL,trim_nil,views_pures,LV.pures,LV.pure,freeze,Nat.reduceDiv,Int.reduceEq,Int.reduceLT,Int.reduceLE,Int.natCast_zero,LV.cells,allocL,List.getElem?_cons_zero,List.getElem?_cons_succ,storeL,spliceL,List.take_zero,List.take_succ_cons,List.drop_zero,List.drop_succ_cons,List.drop_nil,List.take_nil,Nat.le_refl,Nat.reduceMul,List.set_cons_zero,List.set_cons_succ,LV.scalar,List.all_cons,List.all_nil,Nat.lt_add_one,Nat.zero_lt_one,Nat.reduceLT,Nat.lt_irrefl,fillL,List.length_append,foldIntL,kind_beq,pures_int,solids_int,plains_int,unders_int,scalars_int,hx,hat,h]
theorem at_c {r c : Nat} {hs : List Int} (S : Sho r c hs) (nl ex : Bool) (sz p : Nat) (hp : p < hs.length) (m : LMem) : clF LP n_ebb_at [.agg (SH r c nl ex sz hs),.int .i64 (p : Int)] m = some (.P,.int .i64 0,m) := by
  have hle := S.le
  have hc := fun m => check_c S nl ex sz m
  have hr := fun m => river_c r c hs nl ex sz m
  have hb := fun m => between_c 0 (p : Int) ((hs.length : Int) - 1) m
  rw [decide_eq_true (show (0 : Int) ≤ (p : Int) ∧ (p : Int) ≤ (hs.length : Int) - 1 by omega)] at hb
  have hw : IntKind.i64.wrap ((hs.length : Int) - 1) = (hs.length : Int) - 1 := wrap_in (by omega)
  refine call_P lp_ebb_at rfl (by simp [LV.pures,LV.pure,pures_int]) (m1 := [⟨SH r c nl ex sz hs,true⟩]) ?_ rfl m
  simp only [ebb_at,ebb_at.B,beqT,beqF,exF_seq,exF_region,exF_block,exF_cond,exF_ret,exF_exit,exF_skip,runL,wantL,stepL,evL,evC,LEnv.at,putL,loadFine,loadL,cellsAt,Trk.putNew,Trk.up,Trk.touch,Trk.gives,Trk.calm,Trk.hit,opdsOf,Trk.fresh,LEnv.keep,LEnv.ofFrom,List.map_cons,List.map_nil,nbeq,nble,nblt,ofAV,ofAVs,lenL,bin_add,bin_sub,bin_mul,bin_eql,bin_neq,bin_lss,bin_leq,bin_gtr,bin_geq,natL_nat,natL_zero,natL_one,natL_two,Nat.zero_mul,List.any_cons,List.any_nil,Bool.or_false,Bool.false_or,Bool.true_or,Bool.or_true,Bool.and_true,Bool.true_and,Bool.and_false,Bool.false_and,Bool.not_true,Bool.not_false,Nat.reduceBEq,Nat.reduceEqDiff,decide_true,decide_false,cond_true,cond_false,List.filter_nil,List.filter_cons,Nat.reduceAdd,Nat.reduceLeDiff,reduceCtorEq,List.length_nil,List.length_cons,Nat.mul_one,if_true,if_false,Bool.false_eq_true,eq_self,and_true,true_and,retL,resultsL,resAllL,resOfL,List.append_nil,List.nil_append,List.cons_append,true_or,or_true,false_or,or_false,false_and,and_false,not_true_eq_false,not_false_eq_true,ne_eq,unL,trim_nil,views_pures,LV.pures,LV.pure,freeze,Nat.reduceDiv,Int.reduceEq,Int.reduceLT,Int.reduceLE,Int.natCast_zero,LV.cells,allocL,List.getElem?_cons_zero,List.getElem?_cons_succ,storeL,spliceL,List.take_zero,List.take_succ_cons,List.drop_zero,List.drop_succ_cons,List.drop_nil,List.take_nil,Nat.le_refl,Nat.reduceMul,List.set_cons_zero,List.set_cons_succ,LV.scalar,List.all_cons,List.all_nil,Nat.lt_add_one,Nat.zero_lt_one,Nat.reduceLT,Nat.lt_irrefl,fillL,List.length_append,foldIntL,kind_beq,pures_int,solids_int,plains_int,unders_int,scalars_int,hc,hr,hw,hb]
theorem basin_c {r c : Nat} {hs : List Int} (S : Sho r c hs) (hN : hs.length ≤ 12) (nl ex : Bool) (sz : Nat) (out : List Int) (O : OkO hs c out) (hS : ∀ m,clF LP n_ebb_Shore_sills [.agg (SH r c nl ex sz hs)] m = some (.P,.agg (out.map (LV.int .i64)),m)) (p : Nat) (hp : p < hs.length) :
    (hs.getD p 0 < out.getD p 0 → ∃ (l : List Nat) (ex' : Bool),(∀ m,clF LP n_ebb_Basin [.agg (SH r c nl ex sz hs),.int .i64 (p : Int)] m = some (.P,.tup [IL false ex' 1 (ci l),.int .i64 0],m)) ∧ l ≠ [] ∧ (∀ i (hi : i + 1 < l.length),l[i] < l[i + 1]) ∧ ∀ x,x ∈ l ↔ Rch c hs.length (fun x => decide (hs.getD x 0 < out.getD p 0)) p x) ∧
    (¬ hs.getD p 0 < out.getD p 0 → ∀ m,clF LP n_ebb_Basin [.agg (SH r c nl ex sz hs),.int .i64 (p : Int)] m = some (.P,.tup [.lst true true 0 0 [],.int .i64 0],m)) := by
  have hle := S.le
  have hat := fun m => at_c S nl ex sz p hp m
  have hmay := basin1_may r c hs nl ex sz (out.getD p 0)
  have hpu : LV.pure (.func n_ebb_Basin_1 [] [.elt (SH r c nl ex sz hs) 0,.elt [.int .i64 (out.getD p 0)] 0]) = true := by simp [LV.pure,LV.pures,pures_int]
  have hop : (out.map (LV.int .i64))[p]? = some (.int .i64 (out.getD p 0)) := by
    have := O.len
    rw [int_at .i64 out p (by omega),getD_at (by omega)]
  have hpk : p < 37 := by omega
  have hv : views [⟨SH r c nl ex sz hs,true⟩,⟨[.int .i64 (out.getD p 0)],true⟩] [.agg (SH r c nl ex sz hs),.int .i64 (p : Int),.func n_ebb_Basin_1 [] [.ptr 0 0 3,.ptr 1 0 1]] = some ([.agg (SH r c nl ex sz hs),.int .i64 (p : Int),.func n_ebb_Basin_1 [] [.elt (SH r c nl ex sz hs) 0,.elt [.int .i64 (out.getD p 0)] 0]],[0,1]) := by
    simp [views,view,viewL,viewC,LV.pures,LV.pure,pures_int]
  have hvp : LV.pures [.agg (SH r c nl ex sz hs),.int .i64 (p : Int),.func n_ebb_Basin_1 [] [.elt (SH r c nl ex sz hs) 0,.elt [.int .i64 (out.getD p 0)] 0]] = true := by simp [LV.pures,LV.pure,pures_int]
  refine ⟨fun h => ?_,fun h m => ?_⟩
  · obtain ⟨l,ex',h1,h2,h3,h4⟩ := flood_c S hN nl ex sz n_ebb_Basin_1 [] _ hpu _ hmay p hp (decide_eq_true h)
    obtain ⟨m1,k1,_,_⟩ := call_shown lp_ebb_Shore_flood rfl hv hvp (h1 [])
    refine ⟨l,ex',fun m => ?_,h2,h3,h4⟩
    refine call_P lp_ebb_Basin rfl (by simp [LV.pures,LV.pure,pures_int]) (m1 := m1) ?_ (by simp [LV.pure,LV.pures,pures_int]) m
    generalize out.getD p 0 = hi at *
    simp only [ebb_Basin,ebb_Basin.B,beqT,beqF,exF_seq,exF_region,exF_block,exF_cond,exF_ret,exF_exit,exF_skip,runL,wantL,stepL,evL,evC,LEnv.at,putL,loadFine,loadL,cellsAt,Trk.putNew,Trk.up,Trk.touch,Trk.gives,Trk.calm,Trk.hit,opdsOf,Trk.fresh,LEnv.keep,LEnv.ofFrom,List.map_cons,List.map_nil,nbeq,nble,nblt,ofAV,ofAVs,lenL,bin_add,bin_sub,bin_mul,bin_eql,bin_neq,bin_lss,bin_leq,bin_gtr,bin_geq,natL_nat,natL_zero,natL_one,natL_two,Nat.zero_mul,List.any_cons,List.any_nil,Bool.or_false,Bool.false_or,Bool.true_or,Bool.or_true,Bool.and_true,Bool.true_and,Bool.and_false,Bool.false_and,Bool.not_true,Bool.not_false,Nat.reduceBEq,Nat.reduceEqDiff,decide_true,decide_false,cond_true,cond_false,List.filter_nil,List.filter_cons,Nat.reduceAdd,Nat.reduceLeDiff,reduceCtorEq,List.length_nil,List.length_cons,Nat.mul_one,if_true,if_false,Bool.false_eq_true,eq_self,and_true,true_and,retL,resultsL,resAllL,resOfL,List.append_nil,List.nil_append,List.cons_append,true_or,or_true,false_or,or_false,false_and,and_false,not_true_eq_false,not_false_eq_true,ne_eq,unL,trim_nil,views_pures,LV.pures,LV.pure,freeze,Nat.reduceDiv,Int.reduceEq,Int.reduceLT,Int.reduceLE,Int.natCast_zero,LV.cells,allocL,List.getElem?_cons_zero,List.getElem?_cons_succ,storeL,spliceL,List.take_zero,List.take_succ_cons,List.drop_zero,List.drop_succ_cons,List.drop_nil,List.take_nil,Nat.le_refl,Nat.reduceMul,List.set_cons_zero,List.set_cons_succ,LV.scalar,List.all_cons,List.all_nil,Nat.lt_add_one,Nat.zero_lt_one,Nat.reduceLT,Nat.lt_irrefl,fillL,List.length_append,foldIntL,kind_beq,pures_int,solids_int,plains_int,unders_int,scalars_int,hat,hS,hpk,hop,k1]
  · have h1 := flood_no (r := r) (c := c) nl ex sz n_ebb_Basin_1 [] _ hpu _ hmay p hp (decide_eq_false h)
    obtain ⟨m1,k1,_,_⟩ := call_shown lp_ebb_Shore_flood rfl hv hvp (h1 [])
    refine call_P lp_ebb_Basin rfl (by simp [LV.pures,LV.pure,pures_int]) (m1 := m1) ?_ (by simp [LV.pure,LV.pures]) m
    generalize out.getD p 0 = hi at *
    simp only [ebb_Basin,ebb_Basin.B,beqT,beqF,exF_seq,exF_region,exF_block,exF_cond,exF_ret,exF_exit,exF_skip,runL,wantL,stepL,evL,evC,LEnv.at,putL,loadFine,loadL,cellsAt,Trk.putNew,Trk.up,Trk.touch,Trk.gives,Trk.calm,Trk.hit,opdsOf,Trk.fresh,LEnv.keep,LEnv.ofFrom,List.map_cons,List.map_nil,nbeq,nble,nblt,ofAV,ofAVs,lenL,bin_add,bin_sub,bin_mul,bin_eql,bin_neq,bin_lss,bin_leq,bin_gtr,bin_geq,natL_nat,natL_zero,natL_one,natL_two,Nat.zero_mul,List.any_cons,List.any_nil,Bool.or_false,Bool.false_or,Bool.true_or,Bool.or_true,Bool.and_true,Bool.true_and,Bool.and_false,Bool.false_and,Bool.not_true,Bool.not_false,Nat.reduceBEq,Nat.reduceEqDiff,decide_true,decide_false,cond_true,cond_false,List.filter_nil,List.filter_cons,Nat.reduceAdd,Nat.reduceLeDiff,reduceCtorEq,List.length_nil,List.length_cons,Nat.mul_one,if_true,if_false,Bool.false_eq_true,eq_self,and_true,true_and,retL,resultsL,resAllL,resOfL,List.append_nil,List.nil_append,List.cons_append,true_or,or_true,false_or,or_false,false_and,and_false,not_true_eq_false,not_false_eq_true,ne_eq,unL,trim_nil,views_pures,LV.pures,LV.pure,freeze,Nat.reduceDiv,Int.reduceEq,Int.reduceLT,Int.reduceLE,Int.natCast_zero,LV.cells,allocL,List.getElem?_cons_zero,List.getElem?_cons_succ,storeL,spliceL,List.take_zero,List.take_succ_cons,List.drop_zero,List.drop_succ_cons,List.drop_nil,List.take_nil,Nat.le_refl,Nat.reduceMul,List.set_cons_zero,List.set_cons_succ,LV.scalar,List.all_cons,List.all_nil,Nat.lt_add_one,Nat.zero_lt_one,Nat.reduceLT,Nat.lt_irrefl,fillL,List.length_append,foldIntL,kind_beq,pures_int,solids_int,plains_int,unders_int,scalars_int,hat,hS,hpk,hop,k1]
theorem Sills_c {r c : Nat} {hs : List Int} (S : Sho r c hs) (nl ex : Bool) (sz : Nat) (out : List Int) (O : OkO hs c out) (hS : ∀ m,clF LP n_ebb_Shore_sills [.agg (SH r c nl ex sz hs)] m = some (.P,.agg (out.map (LV.int .i64)),m)) (m : LMem) :
    clF LP n_ebb_Sills [.agg (SH r c nl ex sz hs)] m = some (.P,.tup [IL false false 1 (out.take hs.length),.int .i64 0],m) := by
  have hle := S.le
  have hcl := S.cle
  have hcb := S.cb
  have hc := fun m => check_c S nl ex sz m
  have hr := fun m => river_c r c hs nl ex sz m
  have hl := O.len
  have hzz : ∀ a : LV,[a,a,a,a,a,a,a,a,a,a,a,a,a,a,a,a,a,a,a,a,a,a,a,a,a,a,a,a,a,a,a,a,a,a,a,a,a] = List.replicate 37 a := fun a => rfl
  have hdz : (List.replicate 37 (LV.int .i64 0)).drop 37 = [] := List.drop_eq_nil_of_le (by simp)
  have hlen2 : (out.map (LV.int .i64)).length = 37 := by rw [List.length_map,hl]
  have htl : (out.take hs.length).length = hs.length := by simp [hl]; omega
  have hv : views [⟨SH r c nl ex sz hs,true⟩,⟨out.map (LV.int .i64),true⟩] [.sl 1 0 hs.length 37 0 1 37] = some ([IL false false 1 (out.take hs.length)],[1]) := by
    refine views_one 92 _ _ _ _ (fun k => ?_) (by simp [LV.pures,LV.pure])
    have := view_sl k [⟨SH r c nl ex sz hs,true⟩,⟨out.map (LV.int .i64),true⟩] 1 0 hs.length 37 0 out true rfl hl (by omega) 37 (by omega)
    rw [this,List.drop_zero]
    have : Nat.beq 37 hs.length = false := by rw [nbeq,decide_eq_false_iff_not]; omega
    rw [this,Bool.and_false]
  have hcln := cloneI_m false (out.take hs.length) (by omega) (fun e => by rw [e] at htl; simp at htl; omega) hv
  simp only [htl,List.length_cons,List.length_nil,Nat.zero_add,Nat.reduceAdd,List.cons_append,List.nil_append] at hcln
  have hvw : view 100 [⟨SH r c nl ex sz hs,true⟩,⟨out.map (LV.int .i64),true⟩,⟨(out.take hs.length).map (LV.int .i64),true⟩] (.tup [.sl 2 0 hs.length hs.length 1 1 hs.length,.int .i64 0]) = some (.tup [IL false false 1 (out.take hs.length),.int .i64 0],[2]) := by
    refine view_tup2 _ _ _ _ _ (fun k => ?_) rfl (by simp [LV.pures,LV.pure])
    have := view_sl k [⟨SH r c nl ex sz hs,true⟩,⟨out.map (LV.int .i64),true⟩,⟨(out.take hs.length).map (LV.int .i64),true⟩] 2 0 hs.length hs.length 1 (out.take hs.length) true rfl htl (by omega) hs.length (Nat.le_refl _)
    rw [this,List.drop_zero,List.take_of_length_le (by omega)]
    simp [nbeq]
  refine call_Pv lp_ebb_Sills rfl (by simp [LV.pures,LV.pure,pures_int]) (m1 := [⟨SH r c nl ex sz hs,true⟩,⟨out.map (LV.int .i64),true⟩,⟨(out.take hs.length).map (LV.int .i64),true⟩]) ?_ hvw m
  simp only [ebb_Sills,ebb_Sills.B,beqT,beqF,exF_seq,exF_region,exF_block,exF_cond,exF_ret,exF_exit,exF_skip,runL,wantL,stepL,evL,evC,LEnv.at,putL,loadFine,loadL,cellsAt,Trk.putNew,Trk.up,Trk.touch,Trk.gives,Trk.calm,Trk.hit,opdsOf,Trk.fresh,LEnv.keep,LEnv.ofFrom,List.map_cons,List.map_nil,nbeq,nble,nblt,ofAV,ofAVs,lenL,bin_add,bin_sub,bin_mul,bin_eql,bin_neq,bin_lss,bin_leq,bin_gtr,bin_geq,natL_nat,natL_zero,natL_one,natL_two,Nat.zero_mul,List.any_cons,List.any_nil,Bool.or_false,Bool.false_or,Bool.true_or,Bool.or_true,Bool.and_true,Bool.true_and,Bool.and_false,Bool.false_and,Bool.not_true,Bool.not_false,Nat.reduceBEq,Nat.reduceEqDiff,decide_true,decide_false,cond_true,cond_false,List.filter_nil,List.filter_cons,Nat.reduceAdd,Nat.reduceLeDiff,reduceCtorEq,List.length_nil,List.length_cons,Nat.mul_one,if_true,if_false,Bool.false_eq_true,eq_self,and_true,true_and,retL,resultsL,resAllL,resOfL,List.append_nil,List.nil_append,List.cons_append,true_or,or_true,false_or,or_false,false_and,and_false,not_true_eq_false,not_false_eq_true,ne_eq,unL,trim_nil,views_pures,LV.pures,LV.pure,freeze,Nat.reduceDiv,Int.reduceEq,Int.reduceLT,Int.reduceLE,Int.natCast_zero,LV.cells,allocL,List.getElem?_cons_zero,List.getElem?_cons_succ,storeL,spliceL,List.take_zero,List.take_succ_cons,List.drop_zero,List.drop_succ_cons,List.drop_nil,List.take_nil,Nat.le_refl,Nat.reduceMul,List.set_cons_zero,List.set_cons_succ,LV.scalar,List.all_cons,List.all_nil,Nat.lt_add_one,Nat.zero_lt_one,Nat.reduceLT,Nat.lt_irrefl,fillL,List.length_append,foldIntL,kind_beq,pures_int,solids_int,plains_int,unders_int,scalars_int,hc,hr,hS,hzz,List.length_replicate,hdz,hlen2,sliceArrL,optNatL,Option.map_some,Option.map_none,show hs.length ≤ 37 by omega,Nat.zero_le,Nat.sub_zero,hcln]
end Go.Am.Top
