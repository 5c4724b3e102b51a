/-
  What functions of chapter 03 compute, 7: the table of finds once more, for forms that are shown in any way; the fewest forms to leave out.
-/
import Derived.Test.YtoppeojgadbjeaaTopC9
set_option linter.unusedVariables false
set_option linter.unusedSimpArgs false
set_option maxRecDepth 10000
namespace Go.Am.Top
open Go.Am.G
abbrev rowsP (R : List (Bool × List Nat)) : List LV := R.map fun q => IL false q.1 1 (ci q.2)
abbrev RFP (nl ex : Bool) (sz : Nat) (R : List (Bool × List Nat)) : LV := .lst nl ex sz R.length (rowsP R)
abbrev setsP (R : List (Bool × List Nat)) : List Nat := R.map fun q => bitsL q.2
theorem fewP {n : Nat} {R : List (Bool × List Nat)} (F : Fms n (R.map (·.2))) : R.length ≤ 10 := by simpa using F.few
theorem pures_rowsP : ∀ R : List (Bool × List Nat),LV.pures (rowsP R) = true
  | [] => rfl
  | l :: R => by
    have := pures_rowsP R
    simp only [rowsP] at this
    simp [LV.pures,LV.pure,this]
theorem rowP_at (R : List (Bool × List Nat)) (k : Nat) (h : k < R.length) : (rowsP R)[k]? = some (IL false (R[k]).1 1 (ci (R[k]).2)) := by rw [List.getElem?_map,List.getElem?_eq_getElem h]; rfl
theorem openP_row (n : Nat) (hn : n ≤ 7) (e : Bool) (l : List Nat) (hlt : ∀ x ∈ l,x < n) (hasc : ∀ i (h : i + 1 < l.length),l[i] < l[i + 1]) (V : LV) (k rl : Nat) (RV : LV) (M : LMem) (hM : M[0]? = some ⟨[.int .i64 (n : Int),V],true⟩) (t : Nat) : ∀ j,j + t = l.length →
    exF LP style_opened.L0 [(1,.ptr 0 0 2),(2,.ptr 1 0 2),(4,.ptr 2 0 2),(7,.int .u8 ((bitsL (l.take j) : Nat) : Int)),(8,.int .i64 (lastI l j)),(31,RV),(32,.int .i64 (rl : Int)),(33,.int .i64 (k : Int)),(41,IL false e 1 (ci l)),(42,.int .i64 (l.length : Int)),(43,.int .i64 (j : Int))] M =
      some (.exit 3,[(1,.ptr 0 0 2),(2,.ptr 1 0 2),(4,.ptr 2 0 2),(7,.int .u8 ((bitsL l : Nat) : Int)),(31,RV),(32,.int .i64 (rl : Int)),(33,.int .i64 (k : Int))],M) := by
  have hlen : l.length ≤ 7 := by
    have : ∀ i (h : i < l.length),i ≤ l[i] := by
      intro i
      induction i with
      | zero => intro _; omega
      | succ i ih => intro h; have := ih (by omega); have := hasc i h; omega
    by_cases h0 : l.length = 0
    · omega
    · have h1 := this (l.length - 1) (by omega)
      have h2 := hlt _ (List.getElem_mem (show l.length - 1 < l.length by omega))
      omega
  induction t with
  | zero =>
    intro j hj
    obtain rfl : j = l.length := by omega
    rw [style_opened.L0_eq,List.take_length]
    simp only [style_opened.B0,exF_seq,exF_region,exF_cond,exF_exit,runL,wantL,stepL,evL,LEnv.at,putL,loadFine,LEnv.keep,List.map_cons,List.map_nil,nbeq,bin_lss,Nat.reduceEqDiff,decide_true,decide_false,cond_true,cond_false,eq_self,Int.lt_irrefl]
  | succ t ih =>
    intro j hj
    have h2 : j < l.length := by omega
    have ih := ih (j + 1) (by omega)
    have hx := hlt _ (List.getElem_mem h2)
    have htk : l.take (j + 1) = l.take j ++ [l[j]] := by rw [List.take_succ_eq_append_getElem h2]
    have hla : lastI l (j + 1) = ((l[j] : Nat) : Int) := by simp [lastI,h2]
    rw [htk,bitsL_snoc,hla] at ih
    have hb := bitsL_lt (l.take j) n fun x hx => hlt x (List.mem_of_mem_take hx)
    have hp : 2 ^ n ≤ 2 ^ 7 := Nat.pow_le_pow_right (by omega) hn
    have hw := fun m => with_c (s := bitsL (l.take j)) (i := l[j]) (by omega) (by omega) m
    have hat := ci_at l j h2
    have hgt : ¬ ((l[j] : Nat) : Int) ≤ lastI l j := by
      unfold lastI
      split
      · omega
      · have := hasc (j - 1) (by omega)
        have e3 : l.getD (j - 1) 0 = l[j - 1] := by simp [show j - 1 < l.length by omega]
        rw [e3]
        have e2 : l[j - 1 + 1] = l[j] := by congr 1; omega
        omega
    have wk := wrap_succ (show j + 1 < 9223372036854775808 by omega)
    generalize bitsL (l.take j) = b at *
    generalize lastI l j = la at *
    generalize l[j] = x at *
    rw [style_opened.L0_eq]
    simp only [style_opened.B0,beqF,exF_seq,exF_region,exF_block,exF_cond,exF_skip,runL,wantL,stepL,evL,evC,LEnv.at,putL,loadFine,loadL,cellsAt,Trk.putNew,Trk.up,Trk.touch,Trk.gives,Trk.calm,Trk.hit,opdsOf,Trk.fresh,LEnv.keep,List.map_cons,List.map_nil,nbeq,nble,nblt,ofAVs,bin_add,bin_lss,bin_leq,bin_geq,natL_nat,List.any_cons,List.any_nil,Bool.or_false,Bool.false_or,Bool.true_or,Bool.or_true,Bool.and_true,Bool.false_and,Bool.not_true,Bool.not_false,Nat.reduceEqDiff,decide_true,decide_false,cond_true,cond_false,List.filter_nil,Nat.reduceAdd,Nat.reduceLeDiff,List.length_nil,List.length_cons,Nat.mul_one,eq_self,List.append_nil,List.nil_append,List.getElem?_cons_zero,List.take_zero,List.take_succ_cons,List.drop_zero,show (j : Int) < (l.length : Int) by omega,List.length_map,h2,hat,show ¬ ((x : Int) < 0) by omega,hM,show ¬ ((x : Int) ≥ (n : Int)) by omega,hgt,hw,wk,ih]
theorem openP_loop (n : Nat) (R : List (Bool × List Nat)) (F : Fms n (R.map (·.2))) (nl ex : Bool) (sz : Nat) (t : Nat) : ∀ k,k + t = R.length →
    exF LP style_opened.L1 [(1,.ptr 0 0 2),(2,.ptr 1 0 2),(4,.ptr 2 0 2),(31,RFP nl ex sz R),(32,.int .i64 (R.length : Int)),(33,.int .i64 (k : Int))] (MT n (RFP nl ex sz R) (setsP (R.take k))) =
      some (.exit 1,[(2,.ptr 1 0 2),(4,.ptr 2 0 2)],MT n (RFP nl ex sz R) (setsP R)) := by
  have hfew := fewP F
  induction t with
  | zero =>
    intro k hk
    obtain rfl : k = R.length := by omega
    rw [style_opened.L1_eq,List.take_length]
    simp only [style_opened.B1,exF_seq,exF_region,exF_cond,exF_exit,runL,wantL,stepL,evL,LEnv.at,putL,loadFine,LEnv.keep,List.map_cons,List.map_nil,nbeq,bin_lss,Nat.reduceEqDiff,decide_true,decide_false,cond_true,cond_false,eq_self,Int.lt_irrefl]
  | succ t ih =>
    intro k hk
    have h2 : k < R.length := by omega
    have ih := ih (k + 1) (by omega)
    have hm : (R[k]).2 ∈ R.map (·.2) := List.mem_map.2 ⟨_,List.getElem_mem h2,rfl⟩
    have hne := F.ne _ hm
    have hpos : 0 < ((R[k]).2).length := List.length_pos_iff.2 hne
    have htk : setsP (R.take (k + 1)) = setsP (R.take k) ++ [bitsL (R[k]).2] := by
      unfold setsP
      rw [List.take_succ_eq_append_getElem h2,List.map_append]; rfl
    have hlk : (setsP (R.take k)).length = k := by simp [setsP]; omega
    have hrow := fun M hM => openP_row n F.nb.2 (R[k]).1 (R[k]).2 (F.lt _ hm) (F.asc _ hm) (RFP nl ex sz R) k R.length (RFP nl ex sz R) M hM ((R[k]).2).length 0 (by omega)
    have hrow := hrow (MT n (RFP nl ex sz R) (setsP (R.take k))) rfl
    have hat := rowP_at R k h2
    have happ := append_c [⟨[.int .i64 (n : Int),RFP nl ex sz R],true⟩,⟨[.int .i64 0,.lst true true 0 0 []],true⟩,⟨[.int .i64 (n : Int),GVc 3 1 k],true⟩] [] 1 1 k (u8s (setsP (R.take k))) [.int .u8 ((bitsL (R[k]).2 : Nat) : Int)] true (by simp [hlk]; omega) rfl rfl (by omega) (by omega) (.inr rfl)
    have hu : u8s (setsP (R.take k) ++ [bitsL (R[k]).2]) = u8s (setsP (R.take k)) ++ [.int .u8 ((bitsL (R[k]).2 : Nat) : Int)] := by simp [u8s]
    have wk := wrap_succ (show k + 1 < 9223372036854775808 by omega)
    have hz : ¬ ((((R[k]).2).length : Nat) : Int) = 0 := by omega
    rw [htk] at ih
    simp only [MT,hu,hlk,List.length_append,List.length_singleton] at ih hrow ⊢
    simp only [List.cons_append,List.nil_append,List.append_nil,List.length_cons,List.length_nil,Nat.zero_add,Nat.reduceAdd] at happ
    have g1 := gvc_scalar 3 1 (k + 1)
    have g2 := gvc_cells 3 1 (k + 1)
    have hb0 : bitsL ((R[k]).2.take 0) = 0 := rfl
    have hl0 : lastI (R[k]).2 0 = -1 := rfl
    rw [hb0,hl0] at hrow
    simp only [Int.natCast_zero] at hrow
    generalize GVc 3 1 (k + 1) = W at *
    generalize GVc 3 1 k = V at *
    generalize GMc (k + 1) (u8s (setsP (R.take k)) ++ [LV.int .u8 ((bitsL (R[k]).2 : Nat) : Int)]) = M1 at *
    generalize GMc k (u8s (setsP (R.take k))) = M0 at *
    rw [style_opened.L1_eq]
    simp only [style_opened.B1,exF_seq,exF_region,exF_block,exF_cond,exF_skip,runL,wantL,stepL,evL,evC,LEnv.at,putL,loadFine,loadL,cellsAt,Trk.putNew,Trk.up,Trk.touch,Trk.gives,Trk.calm,Trk.hit,opdsOf,Trk.fresh,LEnv.keep,List.map_cons,List.map_nil,nbeq,nble,nblt,ofAV,ofAVs,bin_add,bin_eql,bin_lss,natL_nat,List.any_cons,List.any_nil,Bool.or_false,Bool.or_true,Bool.and_true,Bool.false_and,Bool.not_true,Bool.not_false,Nat.reduceEqDiff,decide_true,decide_false,cond_true,cond_false,List.filter_nil,Nat.reduceAdd,Nat.reduceLeDiff,reduceCtorEq,List.length_nil,List.length_cons,Nat.mul_one,eq_self,List.append_nil,List.nil_append,List.cons_append,views_pures,LV.pures,LV.pure,freeze,Nat.reduceDiv,List.getElem?_cons_zero,List.getElem?_cons_succ,storeL,spliceL,List.take_zero,List.take_succ_cons,List.drop_zero,List.drop_succ_cons,List.drop_nil,List.take_nil,Nat.le_refl,List.set_cons_zero,List.set_cons_succ,List.all_cons,List.all_nil,fillL,lenL,cellsI,show (k : Int) < (R.length : Int) by omega,h2,hat,List.length_map,hz,hrow,happ,g1,g2,wk,ih]
theorem openedP_c (n : Nat) (R : List (Bool × List Nat)) (F : Fms n (R.map (·.2))) (nl ex : Bool) (sz : Nat) (m : LMem) :
    clF LP n_style_opened [.agg [.int .i64 (n : Int),RFP nl ex sz R]] m = some (.P,.tup [.agg [.int .i64 (n : Int),RU (setsP R)],.int .i64 0],m) := by
  have hnb := F.nb
  have hfew := fewP F
  have h1 := openP_loop n R F nl ex sz R.length 0 (by omega)
  obtain ⟨ids,hv⟩ := view_tab (⟨[.int .i64 (n : Int),RFP nl ex sz R],true⟩ :: ⟨[.int .i64 (n : Int),GVc 3 1 (setsP R).length],true⟩ :: ⟨[.int .i64 (n : Int),GVc 3 1 (setsP R).length],true⟩ :: GMc (setsP R).length (u8s (setsP R))) 3 n (setsP R).length (u8s (setsP R)) 0 (fun h => by simp [GMc,show ¬ R.length = 0 by simpa [setsP] using h]) (by simp) (pures_u8s _)
  refine call_Pv lp_style_opened rfl (by simp [LV.pures,LV.pure]) (m1 := ⟨[.int .i64 (n : Int),RFP nl ex sz R],true⟩ :: ⟨[.int .i64 (n : Int),GVc 3 1 (setsP R).length],true⟩ :: ⟨[.int .i64 (n : Int),GVc 3 1 (setsP R).length],true⟩ :: GMc (setsP R).length (u8s (setsP R))) ?_ hv m
  have hs0 : setsP (R.take 0) = [] := rfl
  have e0 : GVc 3 1 0 = .lst true true 0 0 [] := rfl
  have e1 : GMc 0 (u8s []) = [] := rfl
  rw [hs0] at h1
  simp only [MT,List.length_nil,e0,e1,Int.natCast_zero] at h1
  have g1 := gvc_scalar 3 1 (setsP R).length
  generalize GVc 3 1 (setsP R).length = W at *
  generalize GMc (setsP R).length (u8s (setsP R)) = M1 at *
  simp only [style_opened,style_opened.B,beqF,exF_seq,exF_region,exF_block,exF_cond,exF_ret,exF_skip,runL,wantL,stepL,evL,evC,LEnv.at,putL,loadFine,loadL,cellsAt,Trk.putNew,Trk.up,Trk.touch,Trk.gives,Trk.calm,Trk.hit,opdsOf,Trk.fresh,LEnv.keep,LEnv.ofFrom,List.map_cons,List.map_nil,nbeq,nble,ofAV,ofAVs,bin_lss,bin_gtr,List.any_cons,List.any_nil,Bool.or_false,Bool.or_true,Bool.and_true,Bool.false_and,Bool.not_true,Bool.not_false,Nat.reduceEqDiff,decide_true,decide_false,cond_true,cond_false,List.filter_nil,Nat.reduceAdd,Nat.reduceLeDiff,reduceCtorEq,List.length_nil,List.length_cons,eq_self,retL,resultsL,resAllL,resOfL,List.append_nil,List.nil_append,List.cons_append,allocL,List.getElem?_cons_zero,List.getElem?_cons_succ,storeL,spliceL,List.take_zero,List.take_succ_cons,List.drop_zero,List.drop_succ_cons,List.drop_nil,List.take_nil,Nat.le_refl,List.set_cons_zero,List.set_cons_succ,List.all_cons,List.all_nil,fillL,lenL,cellsI,cellsA,scalarI,scalarN,show ¬ (n : Int) < 1 by omega,show ¬ (n : Int) > 7 by omega,show ¬ (R.length : Int) > 10 by omega,h1,g1]
theorem CountP_c (n : Nat) (R : List (Bool × List Nat)) (F : Fms n (R.map (·.2))) (nl ex : Bool) (sz : Nat) (m : LMem) :
    clF LP n_style_Count [.agg [.int .i64 (n : Int),RFP nl ex sz R]] m = some (.P,.tup [.int .i64 ((en (mayB (setsP R)) n 0 : Nat) : Int),.int .i64 0],m) := by
  have ho := fun m => openedP_c n R F nl ex sz m
  have hp : 2 ^ n ≤ 2 ^ 7 := Nat.pow_le_pow_right (by omega) F.nb.2
  have hc := fun a b c m => count_c (fs := setsP R) (n := n) a b c F.nb.2 (by have := fewP F; simp [setsP]; omega) (fun G hG => by
    obtain ⟨l,hl,rfl⟩ := List.mem_map.1 hG
    have := bitsL_lt l.2 n (F.lt l.2 (List.mem_map.2 ⟨l,hl,rfl⟩))
    omega) m
  refine call_P lp_style_Count rfl (by simp [LV.pures,LV.pure]) (m1 := [⟨[.int .i64 (n : Int),RFP nl ex sz R],true⟩,⟨[.int .i64 (n : Int),RU (setsP R)],true⟩]) ?_ rfl m
  simp only [style_Count,style_Count.B,exF_seq,exF_region,exF_cond,exF_ret,exF_skip,runL,wantL,stepL,evL,evC,LEnv.at,putL,loadFine,loadL,cellsAt,Trk.calm,Trk.hit,LEnv.keep,LEnv.ofFrom,List.map_cons,List.map_nil,nbeq,nble,ofAV,ofAVs,bin_neq,List.any_nil,Bool.or_false,Bool.or_true,Bool.and_true,Bool.false_and,Bool.not_true,Bool.not_false,Nat.reduceEqDiff,decide_true,decide_false,cond_true,cond_false,Nat.reduceAdd,Nat.reduceLeDiff,reduceCtorEq,List.length_nil,List.length_cons,eq_self,retL,resultsL,resAllL,resOfL,List.append_nil,List.nil_append,List.cons_append,not_true_eq_false,ne_eq,LV.cells,allocL,List.getElem?_cons_zero,List.getElem?_cons_succ,storeL,spliceL,List.take_zero,List.take_succ_cons,List.drop_zero,List.drop_succ_cons,List.drop_nil,List.take_nil,Nat.le_refl,List.set_cons_zero,List.set_cons_succ,LV.scalar,List.all_cons,List.all_nil,ho,hc]
theorem WhyP_c (n : Nat) (R : List (Bool × List Nat)) (F : Fms n (R.map (·.2))) (h : 0 < en (mayB (setsP R)) n 0) (nl ex : Bool) (sz : Nat) (m : LMem) :
    clF LP n_style_Why [.agg [.int .i64 (n : Int),RFP nl ex sz R]] m = some (.P,.tup [.int .i64 0,.int .i64 0,.int .i64 0,.int .i64 13],m) := by
  have ho := fun m => openedP_c n R F nl ex sz m
  have hp : 2 ^ n ≤ 2 ^ 7 := Nat.pow_le_pow_right (by omega) F.nb.2
  have hc := fun a b c m => count_c (fs := setsP R) (n := n) a b c F.nb.2 (by have := fewP F; simp [setsP]; omega) (fun G hG => by
    obtain ⟨l,hl,rfl⟩ := List.mem_map.1 hG
    have := bitsL_lt l.2 n (F.lt l.2 (List.mem_map.2 ⟨l,hl,rfl⟩))
    omega) m
  refine call_P lp_style_Why rfl (by simp [LV.pures,LV.pure]) (m1 := [⟨[.int .i64 (n : Int),RFP nl ex sz R],true⟩,⟨[.int .i64 (n : Int),RU (setsP R)],true⟩]) ?_ rfl m
  simp only [style_Why,style_Why.B,exF_seq,exF_region,exF_block,exF_cond,exF_ret,runL,wantL,stepL,evL,evC,LEnv.at,putL,loadFine,loadL,cellsAt,Trk.calm,Trk.hit,LEnv.keep,LEnv.ofFrom,List.map_cons,List.map_nil,nbeq,nble,ofAV,ofAVs,bin_neq,bin_gtr,List.any_nil,Bool.or_false,Bool.or_true,Bool.and_true,Bool.false_and,Bool.not_true,Bool.not_false,Nat.reduceEqDiff,decide_true,decide_false,cond_true,cond_false,Nat.reduceAdd,Nat.reduceLeDiff,reduceCtorEq,List.length_nil,List.length_cons,eq_self,retL,resultsL,resAllL,resOfL,List.append_nil,List.nil_append,List.cons_append,not_true_eq_false,ne_eq,LV.cells,allocL,List.getElem?_cons_zero,List.getElem?_cons_succ,storeL,spliceL,List.take_zero,List.take_succ_cons,List.drop_zero,List.drop_succ_cons,List.drop_nil,List.take_nil,Nat.le_refl,List.set_cons_zero,List.set_cons_succ,LV.scalar,List.all_cons,List.all_nil,ho,hc,show ((en (mayB (setsP R)) n 0 : Nat) : Int) > 0 by omega]
def onesOk (v : Nat) : Bool := match callL LP 40 n_math_bits_OnesCount [.int .u64 (v : Int)] [] with
  | some (.P,.int .i64 r,[]) => decide (0 ≤ r)
  | _ => false
theorem ones_all : (List.range 128).all onesOk = true := by kernel_rfl
theorem ones_zero (m : LMem) : clF LP n_math_bits_OnesCount [.int .u64 0] m = some (.P,.int .i64 0,m) := call_ran (n := 40) lp_math_bits_OnesCount rfl (by kernel_rfl) (m' := []) (by kernel_rfl) m
theorem ones_c (v : Nat) (hv : v < 128) : ∃ r : Int,∀ m,clF LP n_math_bits_OnesCount [.int .u64 (v : Int)] m = some (.P,.int .i64 r,m) := by
  have h := List.all_eq_true.1 ones_all v (List.mem_range.2 hv)
  unfold onesOk at h
  split at h
  · rename_i r hr
    exact ⟨r,fun m => call_ran lp_math_bits_OnesCount rfl rfl hr m⟩
  · cases h
def MF (n : Nat) (V : LV) (fs gs : List Nat) : LMem := ⟨[.int .i64 (n : Int),V],true⟩ :: ⟨[.int .i64 (n : Int),RU fs],true⟩ :: ⟨[.int .i64 (n : Int),GVc 3 1 gs.length],true⟩ :: GMc gs.length (u8s gs)
theorem few0_loop (n : Nat) (V : LV) (fs : List Nat) (hl : fs.length ≤ 10) (mv sv vv : LV) (wv : LV) (t : Nat) : ∀ k,k + t = fs.length →
    exF LP style_Fewest.L0 [(4,.ptr 1 0 2),(6,mv),(7,sv),(8,.int .u64 0),(9,.ptr 2 0 2),(10,.lst true true 0 0 []),(28,wv),(29,vv),(44,RU fs),(45,.int .i64 (fs.length : Int)),(46,.int .i64 (k : Int))] (MF n V fs (fs.take k)) =
      some (.exit 2,[(4,.ptr 1 0 2),(6,mv),(7,sv),(9,.ptr 2 0 2),(10,.lst true true 0 0 []),(28,wv),(29,vv)],MF n V fs fs) := by
  induction t with
  | zero =>
    intro k hk
    obtain rfl : k = fs.length := by omega
    rw [style_Fewest.L0_eq,List.take_length]
    simp only [style_Fewest.B0,exF_seq,exF_region,exF_cond,exF_exit,runL,wantL,stepL,evL,LEnv.at,putL,loadFine,LEnv.keep,List.map_cons,List.map_nil,nbeq,bin_lss,Nat.reduceEqDiff,decide_true,decide_false,cond_true,cond_false,eq_self,Int.lt_irrefl]
  | succ t ih =>
    intro k hk
    have h2 : k < fs.length := by omega
    have ih := ih (k + 1) (by omega)
    have hat := u8_at fs k h2
    have hlk : (fs.take k).length = k := by simp; omega
    rw [List.take_succ_eq_append_getElem h2] at ih
    have happ := append_c [⟨[.int .i64 (n : Int),V],true⟩,⟨[.int .i64 (n : Int),RU fs],true⟩,⟨[.int .i64 (n : Int),GVc 3 1 k],true⟩] [] 1 1 k (u8s (fs.take k)) [.int .u8 ((fs[k] : Nat) : Int)] true (by rw [List.length_map,hlk,Nat.mul_one]) rfl rfl (by omega) (by omega) (.inr rfl)
    have hu : u8s (fs.take k ++ [fs[k]]) = u8s (fs.take k) ++ [.int .u8 ((fs[k] : Nat) : Int)] := List.map_append
    have wk := wrap_succ (show k + 1 < 9223372036854775808 by omega)
    have hshr := bits_shr (a := 0) (i := k) (by omega)
    have hand : binL .and (.int .u64 0) (.int .u64 1) = some (.int .u64 0) := rfl
    rw [Nat.zero_div] at hshr
    simp only [Int.natCast_zero] at hshr
    simp only [MF,hu,hlk,List.length_append,List.length_singleton] at ih ⊢
    simp only [List.cons_append,List.nil_append,List.append_nil,List.length_cons,List.length_nil,Nat.zero_add,Nat.reduceAdd] at happ
    have g1 := gvc_scalar 3 1 (k + 1)
    have g2 := gvc_cells 3 1 (k + 1)
    generalize GVc 3 1 (k + 1) = W at *
    generalize GVc 3 1 k = V1 at *
    generalize GMc (k + 1) (u8s (fs.take k) ++ [LV.int .u8 ((fs[k] : Nat) : Int)]) = M1 at *
    generalize GMc k (u8s (fs.take k)) = M0 at *
    rw [style_Fewest.L0_eq]
    simp only [style_Fewest.B0,exF_seq,exF_region,exF_block,exF_cond,exF_skip,runL,wantL,stepL,evL,evC,LEnv.at,putL,loadFine,loadL,cellsAt,Trk.putNew,Trk.up,Trk.touch,Trk.gives,Trk.calm,Trk.hit,opdsOf,Trk.fresh,LEnv.keep,List.map_cons,List.map_nil,nbeq,nble,nblt,ofAV,ofAVs,bin_add,bin_eql,bin_lss,natL_nat,List.any_cons,List.any_nil,Bool.or_false,Bool.or_true,Bool.and_true,Bool.false_and,Bool.not_true,Bool.not_false,Nat.reduceEqDiff,decide_true,decide_false,cond_true,cond_false,List.filter_nil,Nat.reduceAdd,Nat.reduceLeDiff,reduceCtorEq,List.length_nil,List.length_cons,Nat.mul_one,eq_self,List.append_nil,List.nil_append,List.cons_append,views_pures,LV.pures,LV.pure,freeze,Nat.reduceDiv,Int.reduceEq,List.getElem?_cons_zero,List.getElem?_cons_succ,storeL,spliceL,List.take_zero,List.take_succ_cons,List.drop_zero,List.drop_succ_cons,List.drop_nil,List.take_nil,Nat.le_refl,List.set_cons_zero,List.set_cons_succ,List.all_cons,List.all_nil,fillL,cellsI,show (k : Int) < (fs.length : Int) by omega,h2,hat,hshr,hand,happ,g1,g2,wk,ih]
theorem few1_loop (K : Nat) (hK : K ≤ 128) (tv mv : LV) (m : LMem) (t : Nat) : ∀ v,v + t = K →
    exF LP style_Fewest.L1 [(4,tv),(6,mv),(7,.int .i64 0),(28,.int .u64 (K : Int)),(29,.int .u64 (v : Int))] m = some (.exit 0,[(6,mv)],m) := by
  induction t with
  | zero =>
    intro v hv
    obtain rfl : v = K := by omega
    rw [style_Fewest.L1_eq]
    simp only [style_Fewest.B1,exF_seq,exF_region,exF_cond,exF_exit,runL,wantL,stepL,evL,LEnv.at,putL,loadFine,LEnv.keep,List.map_cons,List.map_nil,nbeq,bin_lss,Nat.reduceEqDiff,decide_true,decide_false,cond_true,cond_false,eq_self,Int.lt_irrefl]
  | succ t ih =>
    intro v hv
    have ih := ih (v + 1) (by omega)
    obtain ⟨r,hr⟩ := ones_c v (by omega)
    have wk : IntKind.u64.wrap ((v : Int) + 1) = ((v + 1 : Nat) : Int) := by rw [IntWalk.u64_in _ (by omega)]; omega
    rw [style_Fewest.L1_eq]
    by_cases h : r > 0
    · simp only [style_Fewest.B1,beqF,exF_seq,exF_region,exF_block,exF_cond,exF_exit,exF_skip,runL,wantL,stepL,evL,evC,LEnv.at,putL,loadFine,LEnv.keep,List.map_cons,List.map_nil,nbeq,ofAVs,bin_add,bin_lss,bin_gtr,Bool.not_true,Nat.reduceEqDiff,decide_true,decide_false,cond_true,cond_false,eq_self,List.append_nil,List.nil_append,show (v : Int) < (K : Int) by omega,hr,h,wk,ih]
    · simp only [style_Fewest.B1,beqF,exF_seq,exF_region,exF_block,exF_cond,exF_exit,exF_skip,runL,wantL,stepL,evL,evC,LEnv.at,putL,loadFine,LEnv.keep,List.map_cons,List.map_nil,nbeq,ofAVs,bin_add,bin_eql,bin_lss,bin_gtr,Bool.not_false,Nat.reduceEqDiff,decide_true,decide_false,cond_true,cond_false,eq_self,List.append_nil,List.nil_append,show (v : Int) < (K : Int) by omega,hr,h,wk,ih]
theorem Fewest_c (n : Nat) (R : List (Bool × List Nat)) (F : Fms n (R.map (·.2))) (hR : R.length ≤ 7) (h : 0 < en (mayB (setsP R)) n 0) (nl ex : Bool) (sz : Nat) (m : LMem) :
    clF LP n_style_Fewest [.agg [.int .i64 (n : Int),RFP nl ex sz R]] m = some (.P,.tup [.lst true true 0 0 [],.int .i64 0],m) := by
  have ho := fun m => openedP_c n R F nl ex sz m
  have hp : 2 ^ n ≤ 2 ^ 7 := Nat.pow_le_pow_right (by omega) F.nb.2
  have hfs : ∀ G ∈ setsP R,G < 256 := fun G hG => by
    obtain ⟨l,hl,rfl⟩ := List.mem_map.1 hG
    have := bitsL_lt l.2 n (F.lt l.2 (List.mem_map.2 ⟨l,hl,rfl⟩))
    omega
  have hl : (setsP R).length = R.length := by simp
  have hc := fun a b c m => count_c (fs := setsP R) (n := n) a b c F.nb.2 (by omega) hfs m
  generalize hfs0 : setsP R = fs at *
  have hlf : fs.length ≤ 7 := by omega
  have h0 := fun mv sv vv wv => few0_loop n (RFP nl ex sz R) fs (by omega) mv sv vv wv fs.length 0 (by omega)
  have e0 : GVc 3 1 ([] : List Nat).length = .lst true true 0 0 [] := rfl
  have e1 : GMc ([] : List Nat).length (u8s []) = [] := rfl
  simp only [List.take_zero,MF,e0,e1,Int.natCast_zero] at h0
  have hsh := bits_shl (i := fs.length) (by omega)
  have hp2 : 2 ^ fs.length ≤ 2 ^ 7 := Nat.pow_le_pow_right (by omega) hlf
  have hp3 := Nat.two_pow_pos fs.length
  have hw : IntKind.i64.wrap ((fs.length : Int) + 1) = ((fs.length + 1 : Nat) : Int) := by rw [wrap_in (by omega)]; omega
  -- the rest behind the first
  have h1 := fun tv mv m => few1_loop (2 ^ fs.length) (by omega) tv mv m (2 ^ fs.length - 1) 1 (by omega)
  have hz := fun m => ones_zero m
  -- the table,with all forms,in memory
  have hcm : clF LP n_style_table_count [.agg [.int .i64 (n : Int),GVc 3 1 fs.length]] (MF n (RFP nl ex sz R) fs fs) = some (.P,.int .i64 ((en (mayB fs) n 0 : Nat) : Int),MF n (RFP nl ex sz R) fs fs) := by
    by_cases hk : fs.length = 0
    · have hnil : fs = [] := List.length_eq_zero_iff.1 hk
      have := hc true true 0 (MF n (RFP nl ex sz R) fs fs)
      rw [hnil] at this ⊢
      exact this
    · have eg : GVc 3 1 fs.length = .sl 3 0 fs.length fs.length 1 1 fs.length := by simp [GVc,hk]
      have hM3 : (MF n (RFP nl ex sz R) fs fs)[3]? = some ⟨u8s fs,true⟩ := by
        unfold MF GMc; rw [if_neg hk]; rfl
      have e1 : ∀ j,view (j + 3) (MF n (RFP nl ex sz R) fs fs) (.sl 3 0 fs.length fs.length 1 1 fs.length) = some (UV false false 1 fs,[3]) := fun j => by
        have := view_slc j (MF n (RFP nl ex sz R) fs fs) 3 0 fs.length fs.length 1 fs.length 1 (u8s fs) true hM3 (by rw [List.drop_zero,List.take_of_length_le (by simp)]; exact pures_u8s fs) (by simp) (by omega) (Nat.le_refl _)
        rw [this,List.drop_zero,List.take_of_length_le (by simp)]
        simp [nbeq]
      have e2 := views_snd 89 (MF n (RFP nl ex sz R) fs fs) (.int .i64 (n : Int)) (.sl 3 0 fs.length fs.length 1 1 fs.length) _ [3] e1 rfl (by simp [LV.pures,LV.pure])
      have e3 : view 98 (MF n (RFP nl ex sz R) fs fs) (.agg [.int .i64 (n : Int),.sl 3 0 fs.length fs.length 1 1 fs.length]) = some (.agg [.int .i64 (n : Int),UV false false 1 fs],[3]) := by
        rw [view.eq_def]; simp only [e2]
      have hv : views (MF n (RFP nl ex sz R) fs fs) [.agg [.int .i64 (n : Int),.sl 3 0 fs.length fs.length 1 1 fs.length]] = some ([.agg [.int .i64 (n : Int),UV false false 1 fs]],[3]) := by
        unfold views
        rw [viewL.eq_def]
        simp only [show LV.pures [LV.agg [.int .i64 (n : Int),.sl 3 0 fs.length fs.length 1 1 fs.length]] = false by simp [LV.pures,LV.pure],cond_false]
        rw [viewC.eq_def]
        simp only [e3]
        rw [viewC.eq_def]
        simp
      rw [eg]
      exact call_view lp_style_table_count rfl hv (by simp only [LV.pures,LV.pure,Bool.and_self]) (hc false false 1 []) rfl
  have hL1 : exF LP style_Fewest.L1 [(4,.ptr 1 0 2),(6,.lst true true 0 0 []),(7,.int .i64 ((fs.length + 1 : Nat) : Int)),(28,.int .u64 ((2 ^ fs.length : Nat) : Int)),(29,.int .u64 0)] [⟨[.int .i64 (n : Int),RFP nl ex sz R],true⟩,⟨[.int .i64 (n : Int),RU fs],true⟩] =
      some (.exit 0,[(6,.lst true true 0 0 [])],MF n (RFP nl ex sz R) fs fs) := by
    have w0 : IntKind.u64.wrap (0 + 1) = ((1 : Nat) : Int) := rfl
    have g2 : (MF n (RFP nl ex sz R) fs fs)[2]? = some ⟨[.int .i64 (n : Int),GVc 3 1 fs.length],true⟩ := rfl
    have hMF : (⟨[.int .i64 (n : Int),RFP nl ex sz R],true⟩ :: ⟨[.int .i64 (n : Int),RU fs],true⟩ :: ⟨[.int .i64 (n : Int),GVc 3 1 fs.length],true⟩ :: GMc fs.length (u8s fs) : LMem) = MF n (RFP nl ex sz R) fs fs := rfl
    simp only [hMF] at h0
    generalize MF n (RFP nl ex sz R) fs fs = M at *
    generalize GVc 3 1 fs.length = W at *
    rw [style_Fewest.L1_eq]
    simp only [style_Fewest.B1,beqT,beqF,exF_seq,exF_region,exF_block,exF_cond,exF_skip,runL,wantL,stepL,evL,evC,LEnv.at,putL,loadFine,loadL,cellsAt,Trk.putNew,Trk.up,Trk.touch,Trk.gives,Trk.calm,Trk.hit,opdsOf,Trk.fresh,LEnv.keep,List.map_cons,List.map_nil,nbeq,nble,ofAV,ofAVs,bin_add,bin_eql,bin_lss,bin_gtr,List.any_cons,List.any_nil,Bool.or_false,Bool.false_or,Bool.true_or,Bool.or_true,Bool.and_true,Bool.false_and,Bool.not_true,Bool.not_false,Nat.reduceEqDiff,decide_true,decide_false,cond_true,cond_false,List.filter_nil,List.filter_cons,Nat.reduceAdd,Nat.reduceLeDiff,List.length_nil,List.length_cons,if_true,eq_self,List.append_nil,List.nil_append,List.cons_append,Int.natCast_zero,allocL,List.getElem?_cons_zero,List.getElem?_cons_succ,storeL,spliceL,List.take_zero,List.take_succ_cons,List.drop_zero,List.drop_succ_cons,List.drop_nil,List.take_nil,Nat.le_refl,List.set_cons_zero,List.set_cons_succ,List.all_cons,List.all_nil,fillL,lenL,cellsI,cellsA,scalarI,scalarN,show (0 : Int) < ((2 ^ fs.length : Nat) : Int) by omega,hz,show ¬ (0 : Int) > ((fs.length + 1 : Nat) : Int) by omega,show ¬ ((fs.length + 1 : Nat) : Int) = 0 by omega,h0,show (0 : Int) < ((fs.length + 1 : Nat) : Int) by omega,g2,hcm,show ((en (mayB fs) n 0 : Nat) : Int) > 0 by omega,w0,h1]
  refine call_P lp_style_Fewest rfl (by simp [LV.pures,LV.pure]) (m1 := MF n (RFP nl ex sz R) fs fs) ?_ (by rfl) m
  simp only [style_Fewest,style_Fewest.B,exF_seq,exF_region,exF_block,exF_cond,exF_ret,exF_skip,runL,wantL,stepL,evL,evC,LEnv.at,putL,loadFine,loadL,cellsAt,Trk.putNew,Trk.up,Trk.touch,Trk.gives,Trk.calm,Trk.hit,opdsOf,Trk.fresh,LEnv.keep,LEnv.ofFrom,List.map_cons,List.map_nil,nbeq,nble,ofAV,ofAVs,lenL,bin_add,bin_neq,List.any_cons,List.any_nil,Bool.or_false,Bool.or_true,Bool.and_true,Bool.false_and,Bool.not_true,Bool.not_false,Nat.reduceEqDiff,decide_true,decide_false,cond_true,cond_false,List.filter_nil,Nat.reduceAdd,Nat.reduceLeDiff,reduceCtorEq,List.length_nil,List.length_cons,eq_self,retL,resultsL,resAllL,resOfL,List.append_nil,List.nil_append,List.cons_append,not_true_eq_false,ne_eq,LV.cells,allocL,List.getElem?_cons_zero,List.getElem?_cons_succ,storeL,spliceL,List.take_zero,List.take_succ_cons,List.drop_zero,List.drop_succ_cons,List.drop_nil,List.take_nil,Nat.le_refl,List.set_cons_zero,List.set_cons_succ,LV.scalar,List.all_cons,List.all_nil,ho,hsh,hw,hL1]
end Go.Am.Top
