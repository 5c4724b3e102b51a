import Derived.Test.YtoppeojgadbjeaaTopC13
set_option linter.unusedVariables false
set_option linter.unusedSimpArgs false
set_option maxRecDepth 10000
namespace Go.Am.Top
open Go.Am.G
abbrev oL (f : Nat → Nat) (n : Nat) : List Int := (List.range n).map fun x => ((f x : Nat) : Int)
theorem oL_at (f : Nat → Nat) (n x : Nat) (h : x < n) : ((oL f n).map (LV.int .i64))[x]? = some (.int .i64 ((f x : Nat) : Int)) := by simp [h]
theorem oL_set (f g : Nat → Nat) (n y : Nat) (h : y < n) (hy : g y = f y + 1) (ho : ∀ x,x ≠ y → g x = f x) : (oL f n).set y (((f y + 1 : Nat)) : Int) = oL g n := by
  apply List.ext_getElem?
  intro i
  rw [List.getElem?_set]
  by_cases c : y = i
  · subst c
    simp [h,hy]
  · rw [if_neg c]
    by_cases hi : i < n
    · simp [hi,ho i (Ne.symm c)]
    · simp [hi]
def MN (w : List Nat) (r c : Nat) (hs : List Int) (R : List (List Nat)) (f : Nat → Nat) : LMem :=
  ⟨u8s w,true⟩ :: ⟨SH r c false false 1 hs,true⟩ :: ⟨[.int .i64 (hs.length : Int),GVc 4 1 R.length],true⟩ :: ⟨(oL f hs.length).map (LV.int .i64),true⟩ :: GMc R.length (rowsV R)
theorem often_loop (w : List Nat) (r c : Nat) (hs : List Int) (hn : hs.length ≤ 7) (R : List (List Nat)) (f : Nat → Nat) (hf : ∀ x,f x ≤ 100) (l : List Nat) (hlt : ∀ x ∈ l,x < hs.length) (hnd : l.Nodup) (hl : l.length ≤ 7) (nl ex : Bool) (sz : Nat) (lv wv : LV) (t : Nat) : ∀ j,j + t = l.length →
    exF LP top_TopNested.L0 [(7,.ptr 1 0 3),(8,.int .i64 (hs.length : Int)),(9,.ptr 2 0 2),(10,.sl 3 0 hs.length hs.length 0 1 hs.length),(12,wv),(13,lv),(84,IL nl ex sz (ci l)),(85,.int .i64 (l.length : Int)),(86,.int .i64 (j : Int))] (MN w r c hs R fun x => f x + if x ∈ l.take j then 1 else 0) =
      some (.exit 2,[(7,.ptr 1 0 3),(8,.int .i64 (hs.length : Int)),(9,.ptr 2 0 2),(10,.sl 3 0 hs.length hs.length 0 1 hs.length),(12,wv),(13,lv)],MN w r c hs R fun x => f x + if x ∈ l then 1 else 0) := by
  induction t with
  | zero =>
    intro j hj
    obtain rfl : j = l.length := by omega
    rw [top_TopNested.L0_eq,List.take_length]
    simp only [top_TopNested.B0,beqT,beqF,exF_seq,exF_region,exF_block,exF_cond,exF_ret,exF_exit,exF_skip,runL,wantL,stepL,evL,evC,LEnv.at,putL,loadFine,loadL,cellsAt,Trk.putNew,Trk.up,Trk.touch,Trk.gives,Trk.calm,Trk.hit,opdsOf,Trk.fresh,LEnv.keep,LEnv.ofFrom,List.map_cons,List.map_nil,nbeq,nble,nblt,ofAV,ofAVs,lenL,bin_add,bin_sub,bin_mul,bin_eql,bin_neq,bin_lss,bin_leq,bin_gtr,bin_geq,natL_nat,natL_zero,natL_one,natL_two,Nat.zero_mul,List.any_cons,List.any_nil,Bool.or_false,Bool.false_or,Bool.true_or,Bool.or_true,Bool.and_true,Bool.true_and,Bool.and_false,Bool.false_and,Bool.not_true,Bool.not_false,Nat.reduceBEq,Nat.reduceEqDiff,decide_true,decide_false,cond_true,cond_false,List.filter_nil,List.filter_cons,Nat.reduceAdd,Nat.reduceLeDiff,reduceCtorEq,List.length_nil,List.length_cons,Nat.mul_one,if_true,if_false,Bool.false_eq_true,eq_self,and_true,true_and,retL,resultsL,resAllL,resOfL,List.append_nil,List.nil_append,List.cons_append,true_or,or_true,false_or,or_false,false_and,and_false,not_true_eq_false,not_false_eq_true,ne_eq,unL,trim_nil,views_pures,LV.pures,LV.pure,freeze,Nat.reduceDiv,Int.reduceEq,Int.reduceLT,Int.reduceLE,Int.natCast_zero,LV.cells,allocL,List.getElem?_cons_zero,List.getElem?_cons_succ,storeL,spliceL,List.take_zero,List.take_succ_cons,List.drop_zero,List.drop_succ_cons,List.drop_nil,List.take_nil,Nat.le_refl,Nat.reduceMul,List.set_cons_zero,List.set_cons_succ,LV.scalar,List.all_cons,List.all_nil,Nat.lt_add_one,Nat.zero_lt_one,Nat.reduceLT,Nat.lt_irrefl,fillL,List.length_append,foldIntL,kind_beq,pures_int,solids_int,plains_int,unders_int,scalars_int,Int.lt_irrefl]
  | succ t ih =>
    intro j hj
    have h2 : j < l.length := by omega
    have ih := ih (j + 1) (by omega)
    have hx := hlt _ (List.getElem_mem h2)
    have hat := ci_at l j h2
    have wk := wrap_succ (show j + 1 < 9223372036854775808 by omega)
    have htk : l.take (j + 1) = l.take j ++ [l[j]] := List.take_succ_eq_append_getElem h2
    have hin : l[j] ∈ l.take (j + 1) := by
      rw [htk]; exact List.mem_append_right _ (List.mem_singleton.2 rfl)
    have hnot : l[j] ∉ l.take j := fun hm => by
      have h1 : (l.take (j + 1)).Nodup := List.Nodup.sublist (List.take_sublist _ _) hnd
      rw [htk] at h1
      exact (List.nodup_append.1 h1).2.2 _ hm _ (List.mem_singleton.2 rfl) rfl
    have hmo : ∀ x,x ≠ l[j] → (x ∈ l.take (j + 1) ↔ x ∈ l.take j) := fun x hne => by
      rw [htk,List.mem_append,List.mem_singleton]
      exact ⟨fun h => h.resolve_right hne,.inl⟩
    have e0 : (f l[j] + if l[j] ∈ l.take j then 1 else 0) = f l[j] := by rw [if_neg hnot]; rfl
    have e1 : (f l[j] + if l[j] ∈ l.take (j + 1) then 1 else 0) = f l[j] + 1 := by rw [if_pos hin]
    have hset := oL_set (fun x => f x + if x ∈ l.take j then 1 else 0) (fun x => f x + if x ∈ l.take (j + 1) then 1 else 0) hs.length l[j] hx (e1.trans (congrArg (· + 1) e0.symm)) (fun x hne => by simp only [hmo x hne])
    have hval := oL_at (fun x => f x + if x ∈ l.take j then 1 else 0) hs.length l[j] hx
    rw [e0] at hset hval
    have hfx := hf l[j]
    have hwx := wrap_succ (show f l[j] + 1 < 9223372036854775808 by omega)
    have hst := set_int .i64 (oL (fun x => f x + if x ∈ l.take j then 1 else 0) hs.length) l[j] (((f l[j] + 1 : Nat)) : Int) (by simp; exact hx)
    rw [hset] at hst
    have hpl : ((oL (fun x => f x + if x ∈ l.take j then 1 else 0) hs.length).map (LV.int .i64)).length = hs.length := by simp
    simp only [MN] at ih ⊢
    generalize (oL (fun x => f x + if x ∈ l.take (j + 1) then 1 else 0) hs.length).map (LV.int .i64) = O2 at *
    generalize (oL (fun x => f x + if x ∈ l.take j then 1 else 0) hs.length).map (LV.int .i64) = O1 at *
    generalize f l[j] = fx at *
    generalize l[j] = x at *
    rw [top_TopNested.L0_eq]
    simp only [top_TopNested.B0,beqT,beqF,exF_seq,exF_region,exF_block,exF_cond,exF_ret,exF_exit,exF_skip,runL,wantL,stepL,evL,evC,LEnv.at,putL,loadFine,loadL,cellsAt,Trk.putNew,Trk.up,Trk.touch,Trk.gives,Trk.calm,Trk.hit,opdsOf,Trk.fresh,LEnv.keep,LEnv.ofFrom,List.map_cons,List.map_nil,nbeq,nble,nblt,ofAV,ofAVs,lenL,bin_add,bin_sub,bin_mul,bin_eql,bin_neq,bin_lss,bin_leq,bin_gtr,bin_geq,natL_nat,natL_zero,natL_one,natL_two,Nat.zero_mul,List.any_cons,List.any_nil,Bool.or_false,Bool.false_or,Bool.true_or,Bool.or_true,Bool.and_true,Bool.true_and,Bool.and_false,Bool.false_and,Bool.not_true,Bool.not_false,Nat.reduceBEq,Nat.reduceEqDiff,decide_true,decide_false,cond_true,cond_false,List.filter_nil,List.filter_cons,Nat.reduceAdd,Nat.reduceLeDiff,reduceCtorEq,List.length_nil,List.length_cons,Nat.mul_one,if_true,if_false,Bool.false_eq_true,eq_self,and_true,true_and,retL,resultsL,resAllL,resOfL,List.append_nil,List.nil_append,List.cons_append,true_or,or_true,false_or,or_false,false_and,and_false,not_true_eq_false,not_false_eq_true,ne_eq,unL,trim_nil,views_pures,LV.pures,LV.pure,freeze,Nat.reduceDiv,Int.reduceEq,Int.reduceLT,Int.reduceLE,Int.natCast_zero,LV.cells,allocL,List.getElem?_cons_zero,List.getElem?_cons_succ,storeL,spliceL,List.take_zero,List.take_succ_cons,List.drop_zero,List.drop_succ_cons,List.drop_nil,List.take_nil,Nat.le_refl,Nat.reduceMul,List.set_cons_zero,List.set_cons_succ,LV.scalar,List.all_cons,List.all_nil,Nat.lt_add_one,Nat.zero_lt_one,Nat.reduceLT,Nat.lt_irrefl,fillL,List.length_append,foldIntL,kind_beq,pures_int,solids_int,plains_int,unders_int,scalars_int,show (j : Int) < (l.length : Int) by omega,List.length_map,h2,hat,hx,hpl,hval,Nat.zero_add,show x + 1 ≤ hs.length by omega,hwx,hst,wk,ih]
theorem lv_pair (T : Nat → Nat) (n w : Nat) : (lv T n w).Pairwise (· < ·) := by
  unfold lv
  exact List.Pairwise.sublist List.filter_sublist List.pairwise_lt_range
theorem lv_asc (T : Nat → Nat) (n w : Nat) : ∀ i (h : i + 1 < (lv T n w).length),(lv T n w)[i] < (lv T n w)[i + 1] := fun i h =>
  List.pairwise_iff_getElem.1 (lv_pair T n w) i (i + 1) (by omega) h (by omega)
theorem lv_mem (T : Nat → Nat) (n w x : Nat) : x ∈ lv T n w ↔ x < n ∧ w < T x := by
  unfold lv
  rw [List.mem_filter,List.mem_range,decide_eq_true_eq]
abbrev Rw (T : Nat → Nat) (n w : Nat) : List (List Nat) := (lvs T n w).map (lv T n)
theorem level_loop {r c : Nat} {hs : List Int} (S : Sho r c hs) (hn : hs.length ≤ 7) (T : Nat → Nat) (hT : ∀ x,T x ≤ 31) (hl : ∀ x,x < hs.length → hs.length ≤ x + c → 1 ≤ T x)
    (hB : ∀ w : Nat,w ≤ 30 → ∀ m,clF LP n_ebb_Bare [.agg (SH r c false false 1 hs),.int .i64 (w : Int)] m = some (.P,.tup [RL (ci (lv T hs.length w)),.int .i64 0],m)) (ws : List Nat) (t : Nat) : ∀ w,w + t = 31 →
    exF LP top_TopNested.L1 [(7,.ptr 1 0 3),(8,.int .i64 (hs.length : Int)),(9,.ptr 2 0 2),(10,.sl 3 0 hs.length hs.length 0 1 hs.length),(11,.int .i64 ((lastN T hs.length w : Nat) : Int)),(12,.int .i64 (w : Int))] (MN ws r c hs (Rw T hs.length w) fun x => min w (T x)) =
      some (.exit 0,[(9,.ptr 2 0 2),(10,.sl 3 0 hs.length hs.length 0 1 hs.length)],MN ws r c hs (Rw T hs.length 31) fun x => min 31 (T x)) := by
  induction t with
  | zero =>
    intro w hw
    obtain rfl : w = 31 := by omega
    rw [top_TopNested.L1_eq]
    simp only [top_TopNested.B1,beqT,beqF,exF_seq,exF_region,exF_block,exF_cond,exF_ret,exF_exit,exF_skip,runL,wantL,stepL,evL,evC,LEnv.at,putL,loadFine,loadL,cellsAt,Trk.putNew,Trk.up,Trk.touch,Trk.gives,Trk.calm,Trk.hit,opdsOf,Trk.fresh,LEnv.keep,LEnv.ofFrom,List.map_cons,List.map_nil,nbeq,nble,nblt,ofAV,ofAVs,lenL,bin_add,bin_sub,bin_mul,bin_eql,bin_neq,bin_lss,bin_leq,bin_gtr,bin_geq,natL_nat,natL_zero,natL_one,natL_two,Nat.zero_mul,List.any_cons,List.any_nil,Bool.or_false,Bool.false_or,Bool.true_or,Bool.or_true,Bool.and_true,Bool.true_and,Bool.and_false,Bool.false_and,Bool.not_true,Bool.not_false,Nat.reduceBEq,Nat.reduceEqDiff,decide_true,decide_false,cond_true,cond_false,List.filter_nil,List.filter_cons,Nat.reduceAdd,Nat.reduceLeDiff,reduceCtorEq,List.length_nil,List.length_cons,Nat.mul_one,if_true,if_false,Bool.false_eq_true,eq_self,and_true,true_and,retL,resultsL,resAllL,resOfL,List.append_nil,List.nil_append,List.cons_append,true_or,or_true,false_or,or_false,false_and,and_false,not_true_eq_false,not_false_eq_true,ne_eq,unL,trim_nil,views_pures,LV.pures,LV.pure,freeze,Nat.reduceDiv,Int.reduceEq,Int.reduceLT,Int.reduceLE,Int.natCast_zero,LV.cells,allocL,List.getElem?_cons_zero,List.getElem?_cons_succ,storeL,spliceL,List.take_zero,List.take_succ_cons,List.drop_zero,List.drop_succ_cons,List.drop_nil,List.take_nil,Nat.le_refl,Nat.reduceMul,List.set_cons_zero,List.set_cons_succ,LV.scalar,List.all_cons,List.all_nil,Nat.lt_add_one,Nat.zero_lt_one,Nat.reduceLT,Nat.lt_irrefl,fillL,List.length_append,foldIntL,kind_beq,pures_int,solids_int,plains_int,unders_int,scalars_int,show ¬ (((31 : Nat) : Int) ≤ 30) by omega]
  | succ t ih =>
    intro w hw
    have ih := ih (w + 1) (by omega)
    have hB := hB w (by omega)
    have hlen := lv_len T hs.length w
    have hlast := last_ge T hs.length w
    have hcl := S.cle
    have hc := S.cb
    have hris := fun nl ex sz m => rising_c hs.length (lv T hs.length w) (fun x hx => ((lv_mem _ _ _ _).1 hx).1) (lv_asc _ _ _) (by omega) nl ex sz m
    have hnd : (lv T hs.length w).Nodup := List.nodup_range.filter _
    have hoft := fun R nl ex sz lvv wv => often_loop ws r c hs hn R (fun x => min w (T x)) (fun x => by omega) (lv T hs.length w) (fun x hx => ((lv_mem _ _ _ _).1 hx).1) hnd (by omega) nl ex sz lvv wv (lv T hs.length w).length 0 (by omega)
    have ef : ∀ R,(MN ws r c hs R fun x => min w (T x) + if x ∈ lv T hs.length w then 1 else 0) = MN ws r c hs R fun x => min (w + 1) (T x) := by
      intro R
      have eo : oL (fun x => min w (T x) + if x ∈ lv T hs.length w then 1 else 0) hs.length = oL (fun x => min (w + 1) (T x)) hs.length := by
        apply List.map_congr_left
        intro x hx
        have := List.mem_range.1 hx
        congr 1
        show (min w (T x) + if x ∈ lv T hs.length w then 1 else 0) = min (w + 1) (T x)
        by_cases h : w < T x
        · rw [if_pos ((lv_mem _ _ _ _).2 ⟨this,h⟩)]; omega
        · rw [if_neg (fun h2 => h ((lv_mem _ _ _ _).1 h2).2)]; omega
      unfold MN
      rw [eo]
    have ef0 : ∀ R,(MN ws r c hs R fun x => min w (T x) + if x ∈ (lv T hs.length w).take 0 then 1 else 0) = MN ws r c hs R fun x => min w (T x) := by
      intro R; simp
    simp only [ef,ef0,Int.natCast_zero] at hoft
    have hlst : lastN T hs.length (w + 1) = (lv T hs.length w).length := rfl
    rw [hlst] at ih
    have wk := wrap_succ (show w + 1 < 9223372036854775808 by omega)
    have hw30 : (w : Int) ≤ 30 := by omega
    have hlg : ¬ (((lv T hs.length w).length : Nat) : Int) > ((lastN T hs.length w : Nat) : Int) := by omega
    have hlg' : ¬ ((lastN T hs.length w : Nat) : Int) < (((lv T hs.length w).length : Nat) : Int) := by omega
    have g0 : ∀ (R : List (List Nat)) (f : Nat → Nat),(MN ws r c hs R f)[1]? = some ⟨SH r c false false 1 hs,true⟩ := fun _ _ => rfl
    have g2 : ∀ (R : List (List Nat)) (f : Nat → Nat),(MN ws r c hs R f)[2]? = some ⟨[.int .i64 (hs.length : Int),GVc 4 1 R.length],true⟩ := fun _ _ => rfl
    have hlvs : lvs T hs.length (w + 1) = lvs T hs.length w ++ (if addF T hs.length w then [w] else []) := rfl
    rw [top_TopNested.L1_eq]
    cases ha : addF T hs.length w
    · have hRw : Rw T hs.length (w + 1) = Rw T hs.length w := by
        unfold Rw; rw [hlvs,ha]; simp
      rw [hRw] at ih
      have hw0 : w ≠ 0 := fun e => by simp [addF,e] at ha
      have ha2 : ¬ (0 < (lv T hs.length w).length ∧ (lv T hs.length w).length < lastN T hs.length w) := fun h => by simp [addF,h] at ha
      by_cases hz : 0 < (lv T hs.length w).length
      · have hz2 : ¬ (((lv T hs.length w).length : Nat) : Int) < ((lastN T hs.length w : Nat) : Int) := by omega
        simp only [top_TopNested.B1,top_TopNested.B1.R0,top_TopNested.B1.R1,top_TopNested.B1.R2,beqT,beqF,exF_seq,exF_region,exF_block,exF_cond,exF_ret,exF_exit,exF_skip,runL,wantL,stepL,evL,evC,LEnv.at,putL,loadFine,loadL,cellsAt,Trk.putNew,Trk.up,Trk.touch,Trk.gives,Trk.calm,Trk.hit,opdsOf,Trk.fresh,LEnv.keep,LEnv.ofFrom,List.map_cons,List.map_nil,nbeq,nble,nblt,ofAV,ofAVs,lenL,bin_add,bin_sub,bin_mul,bin_eql,bin_neq,bin_lss,bin_leq,bin_gtr,bin_geq,natL_nat,natL_zero,natL_one,natL_two,Nat.zero_mul,List.any_cons,List.any_nil,Bool.or_false,Bool.false_or,Bool.true_or,Bool.or_true,Bool.and_true,Bool.true_and,Bool.and_false,Bool.false_and,Bool.not_true,Bool.not_false,Nat.reduceBEq,Nat.reduceEqDiff,decide_true,decide_false,cond_true,cond_false,List.filter_nil,List.filter_cons,Nat.reduceAdd,Nat.reduceLeDiff,reduceCtorEq,List.length_nil,List.length_cons,Nat.mul_one,if_true,if_false,Bool.false_eq_true,eq_self,and_true,true_and,retL,resultsL,resAllL,resOfL,List.append_nil,List.nil_append,List.cons_append,true_or,or_true,false_or,or_false,false_and,and_false,not_true_eq_false,not_false_eq_true,ne_eq,unL,trim_nil,views_pures,LV.pures,LV.pure,freeze,Nat.reduceDiv,Int.reduceEq,Int.reduceLT,Int.reduceLE,Int.natCast_zero,LV.cells,allocL,List.getElem?_cons_zero,List.getElem?_cons_succ,storeL,spliceL,List.take_zero,List.take_succ_cons,List.drop_zero,List.drop_succ_cons,List.drop_nil,List.take_nil,Nat.le_refl,Nat.reduceMul,List.set_cons_zero,List.set_cons_succ,LV.scalar,List.all_cons,List.all_nil,Nat.lt_add_one,Nat.zero_lt_one,Nat.reduceLT,Nat.lt_irrefl,fillL,List.length_append,foldIntL,kind_beq,pures_int,solids_int,plains_int,unders_int,scalars_int,hw30,g0,hB,List.length_map,hlg,hlg',hris,show (((lv T hs.length w).length : Nat) : Int) > 0 by omega,show (0 : Int) < (((lv T hs.length w).length : Nat) : Int) by omega,hz2,show ¬ (w : Int) = 0 by omega,hoft,wk,ih]
      · simp only [top_TopNested.B1,top_TopNested.B1.R0,top_TopNested.B1.R1,top_TopNested.B1.R2,beqT,beqF,exF_seq,exF_region,exF_block,exF_cond,exF_ret,exF_exit,exF_skip,runL,wantL,stepL,evL,evC,LEnv.at,putL,loadFine,loadL,cellsAt,Trk.putNew,Trk.up,Trk.touch,Trk.gives,Trk.calm,Trk.hit,opdsOf,Trk.fresh,LEnv.keep,LEnv.ofFrom,List.map_cons,List.map_nil,nbeq,nble,nblt,ofAV,ofAVs,lenL,bin_add,bin_sub,bin_mul,bin_eql,bin_neq,bin_lss,bin_leq,bin_gtr,bin_geq,natL_nat,natL_zero,natL_one,natL_two,Nat.zero_mul,List.any_cons,List.any_nil,Bool.or_false,Bool.false_or,Bool.true_or,Bool.or_true,Bool.and_true,Bool.true_and,Bool.and_false,Bool.false_and,Bool.not_true,Bool.not_false,Nat.reduceBEq,Nat.reduceEqDiff,decide_true,decide_false,cond_true,cond_false,List.filter_nil,List.filter_cons,Nat.reduceAdd,Nat.reduceLeDiff,reduceCtorEq,List.length_nil,List.length_cons,Nat.mul_one,if_true,if_false,Bool.false_eq_true,eq_self,and_true,true_and,retL,resultsL,resAllL,resOfL,List.append_nil,List.nil_append,List.cons_append,true_or,or_true,false_or,or_false,false_and,and_false,not_true_eq_false,not_false_eq_true,ne_eq,unL,trim_nil,views_pures,LV.pures,LV.pure,freeze,Nat.reduceDiv,Int.reduceEq,Int.reduceLT,Int.reduceLE,Int.natCast_zero,LV.cells,allocL,List.getElem?_cons_zero,List.getElem?_cons_succ,storeL,spliceL,List.take_zero,List.take_succ_cons,List.drop_zero,List.drop_succ_cons,List.drop_nil,List.take_nil,Nat.le_refl,Nat.reduceMul,List.set_cons_zero,List.set_cons_succ,LV.scalar,List.all_cons,List.all_nil,Nat.lt_add_one,Nat.zero_lt_one,Nat.reduceLT,Nat.lt_irrefl,fillL,List.length_append,foldIntL,kind_beq,pures_int,solids_int,plains_int,unders_int,scalars_int,hw30,g0,hB,List.length_map,hlg,hlg',hris,show ¬ (((lv T hs.length w).length : Nat) : Int) > 0 by omega,show ¬ (0 : Int) < (((lv T hs.length w).length : Nat) : Int) by omega,show ¬ (w : Int) = 0 by omega,hoft,wk,ih]
    · have hRw : Rw T hs.length (w + 1) = Rw T hs.length w ++ [lv T hs.length w] := by
        unfold Rw; rw [hlvs,ha]; simp
      have hne : lv T hs.length w ≠ [] := by
        intro e
        simp only [addF,Bool.or_eq_true,Bool.and_eq_true,decide_eq_true_eq] at ha
        rcases ha with h | rfl
        · rw [e] at h; simp at h
        · have hm : hs.length - 1 ∈ lv T hs.length 0 := (lv_mem _ _ _ _).2 ⟨by omega,by have := hl (hs.length - 1) (by omega) (by omega); omega⟩
          rw [e] at hm; simp at hm
      have hRL : RL (ci (lv T hs.length w)) = rlv (ci (lv T hs.length w)) := by
        simp [RL,hne]
      have hE : rlv (ci (lv T hs.length w)) = .lst false false 1 (lv T hs.length w).length ((ci (lv T hs.length w)).map (LV.int .i64)) := by
        simp only [rlv,IL,ci,List.length_map]
      have hE2 : IL false false 1 (ci (lv T hs.length w)) = .lst false false 1 (lv T hs.length w).length ((ci (lv T hs.length w)).map (LV.int .i64)) := hE
      rw [hRL,hE] at hB
      have hris := hris false false 1
      have hoft := fun R => hoft R false false 1
      rw [hE2] at hris
      simp only [hE2] at hoft
      have hpos : 0 < (lv T hs.length w).length := List.length_pos_iff.2 hne
      have hkk : (Rw T hs.length w).length ≤ 8 := by
        have : ∀ v,(lvs T hs.length v).length ≤ hs.length + 1 := by
          intro v
          cases v with
          | zero => simp [lvs]
          | succ v => have := lvs_le T hs.length v; omega
        have := this w
        simp only [Rw,List.length_map]; omega
      have happ := append_c [⟨u8s ws,true⟩,⟨SH r c false false 1 hs,true⟩,⟨[.int .i64 (hs.length : Int),GVc 4 1 (Rw T hs.length w).length],true⟩,⟨(oL (fun x => min w (T x)) hs.length).map (LV.int .i64),true⟩] [] 1 24 (Rw T hs.length w).length (rowsV (Rw T hs.length w)) [.lst false false 1 (lv T hs.length w).length ((ci (lv T hs.length w)).map (LV.int .i64))] true (by simp) rfl rfl (by omega) (by omega) (.inr rfl)
      simp only [List.cons_append,List.nil_append,List.append_nil,List.length_cons,List.length_nil,Nat.zero_add,Nat.reduceAdd] at happ
      have happ : appendL (MN ws r c hs (Rw T hs.length w) fun x => min w (T x)) 1 24 (GVc 4 1 (Rw T hs.length w).length) (.lst false true 1 1 [.lst false false 1 (lv T hs.length w).length ((ci (lv T hs.length w)).map (LV.int .i64))]) = some (GVc 4 1 ((Rw T hs.length w).length + 1),⟨u8s ws,true⟩ :: ⟨SH r c false false 1 hs,true⟩ :: ⟨[.int .i64 (hs.length : Int),GVc 4 1 (Rw T hs.length w).length],true⟩ :: ⟨(oL (fun x => min w (T x)) hs.length).map (LV.int .i64),true⟩ :: GMc ((Rw T hs.length w).length + 1) (rowsV (Rw T hs.length w) ++ [.lst false false 1 (lv T hs.length w).length ((ci (lv T hs.length w)).map (LV.int .i64))])) := happ
      have emn : (⟨u8s ws,true⟩ :: ⟨SH r c false false 1 hs,true⟩ :: ⟨[.int .i64 (hs.length : Int),GVc 4 1 ((Rw T hs.length w).length + 1)],true⟩ :: ⟨(oL (fun x => min w (T x)) hs.length).map (LV.int .i64),true⟩ :: GMc ((Rw T hs.length w).length + 1) (rowsV (Rw T hs.length w) ++ [.lst false false 1 (lv T hs.length w).length ((ci (lv T hs.length w)).map (LV.int .i64))])) = MN ws r c hs (Rw T hs.length w ++ [lv T hs.length w]) fun x => min w (T x) := by
        unfold MN rowsV
        rw [← hE]
        simp only [List.length_append,List.length_singleton,List.map_append,List.map_cons,List.map_nil]
      have s1 := gvc_scalar 4 1 ((Rw T hs.length w).length + 1)
      have s2 := gvc_cells 4 1 ((Rw T hs.length w).length + 1)
      rw [hRw] at ih
      have cN : ∀ (a b : Bool) (c d : Nat) (cs : List LV),(LV.lst a b c d cs).cells = some [.lst a b c d cs] := fun _ _ _ _ _ => rfl
      have hor : (0 < (lv T hs.length w).length ∧ (lv T hs.length w).length < lastN T hs.length w) ∨ w = 0 := by
        simp only [addF,Bool.or_eq_true,Bool.and_eq_true,decide_eq_true_eq] at ha
        exact ha
      by_cases hz : (lv T hs.length w).length < lastN T hs.length w
      · simp only [top_TopNested.B1,top_TopNested.B1.R0,top_TopNested.B1.R1,top_TopNested.B1.R2,beqT,beqF,exF_seq,exF_region,exF_block,exF_cond,exF_ret,exF_exit,exF_skip,runL,wantL,stepL,evL,evC,LEnv.at,putL,loadFine,loadL,cellsAt,Trk.putNew,Trk.up,Trk.touch,Trk.gives,Trk.calm,Trk.hit,opdsOf,Trk.fresh,LEnv.keep,LEnv.ofFrom,List.map_cons,List.map_nil,nbeq,nble,nblt,ofAV,ofAVs,bin_add,bin_sub,bin_mul,bin_eql,bin_neq,bin_lss,bin_leq,bin_gtr,bin_geq,natL_nat,natL_zero,natL_one,natL_two,Nat.zero_mul,List.any_cons,List.any_nil,Bool.or_false,Bool.false_or,Bool.true_or,Bool.or_true,Bool.and_true,Bool.true_and,Bool.and_false,Bool.false_and,Bool.not_true,Bool.not_false,Nat.reduceBEq,Nat.reduceEqDiff,decide_true,decide_false,cond_true,cond_false,List.filter_nil,List.filter_cons,Nat.reduceAdd,Nat.reduceLeDiff,reduceCtorEq,List.length_nil,List.length_cons,Nat.mul_one,if_true,if_false,Bool.false_eq_true,eq_self,and_true,true_and,retL,resultsL,resAllL,resOfL,List.append_nil,List.nil_append,List.cons_append,true_or,or_true,false_or,or_false,false_and,and_false,not_true_eq_false,not_false_eq_true,ne_eq,unL,trim_nil,views_pures,LV.pures,LV.pure,freeze,Nat.reduceDiv,Int.reduceEq,Int.reduceLT,Int.reduceLE,Int.natCast_zero,allocL,List.getElem?_cons_zero,List.getElem?_cons_succ,storeL,spliceL,List.take_zero,List.take_succ_cons,List.drop_zero,List.drop_succ_cons,List.drop_nil,List.take_nil,Nat.le_refl,Nat.reduceMul,List.set_cons_zero,List.set_cons_succ,List.all_cons,List.all_nil,Nat.lt_add_one,Nat.zero_lt_one,Nat.reduceLT,Nat.lt_irrefl,fillL,List.length_append,foldIntL,kind_beq,pures_int,solids_int,plains_int,unders_int,scalars_int,lenL,cN,hw30,g0,g2,hB,hlg,hlg',hris,show (((lv T hs.length w).length : Nat) : Int) > 0 by omega,show (0 : Int) < (((lv T hs.length w).length : Nat) : Int) by omega,show (((lv T hs.length w).length : Nat) : Int) < ((lastN T hs.length w : Nat) : Int) by omega,happ,s1,s2,emn,hoft,wk,ih]
      · obtain rfl : w = 0 := by omega
        simp only [Int.natCast_zero] at hB hw30 wk ih ⊢
        simp only [top_TopNested.B1,top_TopNested.B1.R0,top_TopNested.B1.R1,top_TopNested.B1.R2,beqT,beqF,exF_seq,exF_region,exF_block,exF_cond,exF_ret,exF_exit,exF_skip,runL,wantL,stepL,evL,evC,LEnv.at,putL,loadFine,loadL,cellsAt,Trk.putNew,Trk.up,Trk.touch,Trk.gives,Trk.calm,Trk.hit,opdsOf,Trk.fresh,LEnv.keep,LEnv.ofFrom,List.map_cons,List.map_nil,nbeq,nble,nblt,ofAV,ofAVs,bin_add,bin_sub,bin_mul,bin_eql,bin_neq,bin_lss,bin_leq,bin_gtr,bin_geq,natL_nat,natL_zero,natL_one,natL_two,Nat.zero_mul,List.any_cons,List.any_nil,Bool.or_false,Bool.false_or,Bool.true_or,Bool.or_true,Bool.and_true,Bool.true_and,Bool.and_false,Bool.false_and,Bool.not_true,Bool.not_false,Nat.reduceBEq,Nat.reduceEqDiff,decide_true,decide_false,cond_true,cond_false,List.filter_nil,List.filter_cons,Nat.reduceAdd,Nat.reduceLeDiff,reduceCtorEq,List.length_nil,List.length_cons,Nat.mul_one,if_true,if_false,Bool.false_eq_true,eq_self,and_true,true_and,retL,resultsL,resAllL,resOfL,List.append_nil,List.nil_append,List.cons_append,true_or,or_true,false_or,or_false,false_and,and_false,not_true_eq_false,not_false_eq_true,ne_eq,unL,trim_nil,views_pures,LV.pures,LV.pure,freeze,Nat.reduceDiv,Int.reduceEq,Int.reduceLT,Int.reduceLE,Int.natCast_zero,allocL,List.getElem?_cons_zero,List.getElem?_cons_succ,storeL,spliceL,List.take_zero,List.take_succ_cons,List.drop_zero,List.drop_succ_cons,List.drop_nil,List.take_nil,Nat.le_refl,Nat.reduceMul,List.set_cons_zero,List.set_cons_succ,List.all_cons,List.all_nil,Nat.lt_add_one,Nat.zero_lt_one,Nat.reduceLT,Nat.lt_irrefl,fillL,List.length_append,foldIntL,kind_beq,pures_int,solids_int,plains_int,unders_int,scalars_int,lenL,cN,hw30,g0,g2,hB,hlg,hlg',hris,show (((lv T hs.length 0).length : Nat) : Int) > 0 by omega,show (0 : Int) < (((lv T hs.length 0).length : Nat) : Int) by omega,show ¬ (((lv T hs.length 0).length : Nat) : Int) < ((lastN T hs.length 0 : Nat) : Int) by omega,happ,s1,s2,emn,hoft,wk,ih]
end Go.Am.Top
set_option maxRecDepth 100000
namespace Go.Am.Top
open Go.Am.G
theorem works_c (m : LMem) : clF LP n_top_stylesWork [] m = some (.P,.bool true,m) := call_run (n := 200) lp_top_stylesWork rfl (by kernel_rfl) m
end Go.Am.Top
