import Derived.Test.YtcckhkcchpfdoaaShareC31
set_option linter.unusedVariables false
set_option linter.unusedSimpArgs false
set_option maxRecDepth 10000
namespace Go.Am.Share
def prodF : List Int → Int × Int → Int × Int
  | [],a => a
  | w :: r,a => prodF r (if 0 < w then (IntKind.i64.wrap (a.1 + 1),IntKind.i64.wrap (a.2 * w)) else a)
def prodO (V : List (List Int)) (o : List Int) : Int × Int := prodF (ownL V o 0 V.length) (0,1)
def gtP (a b : Int × Int) : Bool := decide (b.1 < a.1) || (decide (a.1 = b.1) && decide (b.2 < a.2))
def mostF (V : List (List Int)) : List Int → List (List Int) → List Int
  | b,[] => b
  | b,x :: xs => mostF V (if gtP (prodO V x) (prodO V b) then x else b) xs
end Go.Am.Share
set_option linter.unusedVariables false
set_option linter.unusedSimpArgs false
set_option maxRecDepth 10000
namespace Go.Am.Share
def mostV (V : List (List Int)) : List Int := if chkV V = 0 then (match allD V.length (V.getD 0 []).length with | [] => [] | b :: r => mostF V b r) else []
def curP (V : List (List Int)) : List (List Int) → Int × Int
  | [] => (-1,0)
  | q :: _ => prodO V q
def visM (V : List (List Int)) (h : List (List Int)) (o : List Int) : List (List Int) × Bool := (if gtP (prodO V o) (curP V h) then o :: h else h,true)
theorem most_run (V : List (List Int)) : ∀ (l : List (List Int)) (b : List Int) (h : List (List Int)),∃ h',(runV (visM V) (b :: h) l).1 = mostF V b l :: h'
  | [],b,h => ⟨h,rfl⟩
  | x :: xs,b,h => by
    rw [runV,if_pos (show (visM V (b :: h) x).2 = true from rfl),mostF]
    have e : (visM V (b :: h) x).1 = if gtP (prodO V x) (prodO V b) then x :: b :: h else b :: h := rfl
    rw [e]
    by_cases c : gtP (prodO V x) (prodO V b) = true
    · rw [if_pos c,if_pos c]; exact most_run V xs x (b :: h)
    · rw [if_neg c,if_neg c]; exact most_run V xs b h
theorem prodF_ge : ∀ (l : List Int) (a : Int × Int),0 ≤ a.1 → a.1 + l.length ≤ 1000 → 0 ≤ (prodF l a).1
  | [],a,h,_ => h
  | w :: r,a,h,h2 => by
    simp only [List.length_cons] at h2
    rw [prodF]
    by_cases c : 0 < w
    · rw [if_pos c]
      have hw : IntKind.i64.wrap (a.1 + 1) = a.1 + 1 := wrap_in (by omega)
      exact prodF_ge r _ (by simp only [hw]; omega) (by simp only [hw]; omega)
    · rw [if_neg c]; exact prodF_ge r a h (by omega)
theorem most_first (V : List (List Int)) (h4 : V.length ≤ 4) (b : List Int) (r : List (List Int)) : ∃ h',(runV (visM V) [] (b :: r)).1 = mostF V b r :: h' := by
  rw [runV,if_pos (show (visM V [] b).2 = true from rfl)]
  have hg : 0 ≤ (prodO V b).1 := prodF_ge _ _ (by simp) (by simp [ownL]; omega)
  have e : (visM V [] b).1 = [b] := by
    have hc : gtP (prodO V b) (curP V []) = true := by
      unfold gtP
      rw [Bool.or_eq_true,decide_eq_true_eq]
      left
      show (-1 : Int) < (prodO V b).1
      omega
    simp only [visM]
    rw [if_pos hc]
  rw [e]
  exact most_run V r b []
theorem runM_ext (V : List (List Int)) : ∀ (l h : List (List Int)),(runV (visM V) h l).1 = h ∨ h.length < (runV (visM V) h l).1.length
  | [],h => .inl rfl
  | x :: xs,h => by
    rw [runV,if_pos (show (visM V h x).2 = true from rfl)]
    by_cases c : gtP (prodO V x) (curP V h) = true
    · have e : (visM V h x).1 = x :: h := by simp only [visM]; rw [if_pos c]
      rw [e]
      rcases runM_ext V xs (x :: h) with d | d
      · rw [d]; right; simp
      · right; simp at d; omega
    · have e : (visM V h x).1 = h := by simp only [visM]; rw [if_neg c]
      rw [e]
      exact runM_ext V xs h
theorem pmost_loop (own : List Int) (hs : own.length < 1000) (K : Nat) (m : LMem) (n : Nat) : ∀ (k : Nat) (a : Int × Int),k + n = own.length →
    exF LP share_Most_1.L0 [(1,.ptr 1 0 1),(2,.ptr 2 0 1),(3,.ptr 0 0 1),(4,.ptr K 0 2),(6,.int .i64 a.1),(7,.int .i64 a.2),(11,IL false false 1 own),(12,.int .i64 (own.length : Int)),(13,.int .i64 (k : Int))] m =
      some (.exit 0,[(1,.ptr 1 0 1),(2,.ptr 2 0 1),(3,.ptr 0 0 1),(4,.ptr K 0 2),(6,.int .i64 (prodF (own.drop k) a).1),(7,.int .i64 (prodF (own.drop k) a).2)],m) := by
  induction n with
  | zero =>
    intro k a hk
    rw [share_Most_1.L0_eq,List.drop_eq_nil_of_le (show own.length ≤ k by omega),prodF]
    simp only [share_Most_1.B0,exF_seq,exF_region,exF_cond,exF_exit,runL,wantL,stepL,evL,LEnv.at,putL,loadFine,LEnv.keep,List.map_cons,List.map_nil,nbeq,bin_lss,Nat.reduceEqDiff,decide_true,decide_false,cond_true,cond_false,eq_self,show ¬ ((k : Int) < (own.length : Int)) by omega]
  | succ n ih =>
    intro k a hk
    have h2 : k < own.length := by omega
    rw [share_Most_1.L0_eq,List.drop_eq_getElem_cons h2,prodF]
    have hws := wrap_succ (show k + 1 < 9223372036854775808 by omega)
    by_cases h : 0 < own[k]
    · have ih := ih (k + 1) (IntKind.i64.wrap (a.1 + 1),IntKind.i64.wrap (a.2 * own[k])) (by omega)
      simp only [share_Most_1.B0,exF_seq,exF_region,exF_block,exF_cond,exF_skip,runL,wantL,stepL,evL,evC,LEnv.at,putL,loadFine,loadL,cellsAt,Trk.putNew,Trk.up,Trk.touch,Trk.gives,Trk.calm,opdsOf,Trk.fresh,LEnv.keep,List.map_cons,List.map_nil,nbeq,nble,nblt,bin_add,bin_mul,bin_lss,bin_gtr,natL_nat,List.any_cons,List.any_nil,Bool.or_false,Bool.or_true,Bool.and_true,Bool.false_and,Bool.not_true,Bool.not_false,Nat.reduceEqDiff,decide_true,decide_false,cond_true,cond_false,List.filter_nil,Nat.reduceAdd,Nat.reduceLeDiff,Nat.mul_one,if_true,eq_self,show ((k : Int) < (own.length : Int)) by omega,h2,int_at _ _ _ h2,h,hws,ih]
    · have ih := ih (k + 1) a (by omega)
      simp only [share_Most_1.B0,exF_seq,exF_region,exF_block,exF_cond,exF_skip,runL,wantL,stepL,evL,evC,LEnv.at,putL,loadFine,loadL,cellsAt,Trk.putNew,Trk.up,Trk.touch,Trk.gives,Trk.calm,opdsOf,Trk.fresh,LEnv.keep,List.map_cons,List.map_nil,nbeq,nble,nblt,bin_add,bin_lss,bin_gtr,natL_nat,List.any_cons,List.any_nil,Bool.or_false,Bool.or_true,Bool.and_true,Bool.false_and,Bool.not_true,Bool.not_false,Nat.reduceEqDiff,decide_true,decide_false,cond_true,cond_false,List.filter_nil,Nat.reduceAdd,Nat.reduceLeDiff,Nat.mul_one,if_false,eq_self,show ((k : Int) < (own.length : Int)) by omega,h2,int_at _ _ _ h2,h,hws,ih]
end Go.Am.Share
set_option linter.unusedVariables false
set_option linter.unusedSimpArgs false
set_option maxRecDepth 10000
namespace Go.Am
theorem trim_cut (M X : LMem) (c : Bool) (h : belowM M.length M = true) : trim M.length [.bool c] (M ++ X) = M := by
  unfold trim
  rw [List.take_left,h]
  rfl
theorem trim_out (K : Nat) (b : LBlk) (r : LMem) (vs : List LV) (hK : 0 < K) (h : LV.unders K b.cells = false) : trim K vs (b :: r) = b :: r := by
  unfold trim
  obtain ⟨n,rfl⟩ : ∃ n,K = n + 1 := ⟨K - 1,by omega⟩
  rw [List.take_succ_cons]
  simp [belowM,h]
namespace Share
def histM (V : LV) (L : Nat) : List (List Int) → LMem
  | [] => []
  | q :: h => histM V L h ++ (if L = 0 then [] else [⟨[V,SLo 5 L],true⟩,⟨q.map (LV.int .i64),true⟩])
theorem histM_length (V : LV) (L : Nat) : ∀ (h : List (List Int)),(histM V L h).length = if L = 0 then 0 else 2 * h.length
  | [] => by simp [histM]
  | q :: h => by
    rw [histM,List.length_append,histM_length V L h]
    by_cases c : L = 0
    · simp [c]
    · simp [c]; omega
def outM (L : Nat) (h : List (List Int)) : LV := match h with | [] => LNIL | _ :: _ => CV (7 + 2 * h.length) L
def ownM (L : Nat) (h : List (List Int)) : Bool := match h with | [] => true | _ :: _ => decide (L ≠ 0)
def RR (V : LV) (L : Nat) (h : List (List Int)) (o : List Int) : LMem := [⟨[.func n_share_Most_1 [] [.ptr 1 0 1,.ptr 2 0 1,.ptr 0 0 1]],true⟩,⟨[V,SLo 5 L],true⟩,⟨o.map (LV.int .i64),ownM L h⟩,⟨[V,SLo 5 L],true⟩,⟨[PUT 3],true⟩] ++ histM V L h
def MM (V : LV) (W : List (List Int)) (L : Nat) (h : List (List Int)) (o : List Int) : LMem :=
  ⟨[outM L h],true⟩ :: ⟨[.int .i64 (curP W h).1],true⟩ :: ⟨[.int .i64 (curP W h).2],true⟩ :: RR V L h o
theorem RR_length (V : LV) (L : Nat) (h : List (List Int)) (o : List Int) : (RR V L h o).length = 5 + (histM V L h).length := by simp [RR]; omega
theorem below_hist (V : LV) (hV : ∀ k,LV.under k V = true) (L K : Nat) (hK : 5 < K) : ∀ (h : List (List Int)),belowM K (histM V L h) = true
  | [] => rfl
  | q :: h => by
    have ih := below_hist V hV L K hK h
    unfold belowM at ih ⊢
    rw [histM,List.all_append,ih]
    by_cases c : L = 0
    · simp [c]
    · simp [c,LV.unders,LV.under,unders_int,hV,nblt,hK]
theorem below_MM (V : LV) (hV : ∀ k,LV.under k V = true) (W : List (List Int)) (L : Nat) (h : List (List Int)) (o : List Int) : belowM (MM V W L h o).length (MM V W L h o) = true := by
  have hl : (MM V W L h o).length = 8 + (histM V L h).length := by simp [MM,RR_length]; omega
  rw [hl]
  have hh := below_hist V hV L (8 + (histM V L h).length) (by omega) h
  have ho : LV.under (8 + (histM V L h).length) (outM L h) = true := by
    cases h with
    | nil => rfl
    | cons q r =>
      simp only [outM,CV]
      by_cases c : L = 0
      · simp [c,LV.under]
      · rw [if_neg c,histM_length,if_neg c]
        simp only [LV.under,nblt,decide_eq_true_eq,List.length_cons]
        omega
  unfold belowM at hh ⊢
  have k1 : ∀ n,n < 8 → n < 8 + (histM V L h).length := fun n hn => by omega
  simp [MM,RR,hh,LV.unders,LV.under,unders_int,hV,nblt,ho,k1]
theorem under_VL (nl ex : Bool) (sz : Nat) (rs : List Row) (k : Nat) : LV.under k (VL nl ex sz rs) = true := by simp [LV.under]
theorem most1_c (nl ex : Bool) (sz : Nat) {rs : List Row} {L : Nat} (D : VOk rs L) (h : List (List Int)) (o : List Int) (ho : o.length = L) :
    clF LP n_share_Most_1 [.agg [VL nl ex sz rs,SLo 5 L],.ptr 1 0 1,.ptr 2 0 1,.ptr 0 0 1] (MM (VL nl ex sz rs) (vals rs) L h o) = some (.W,.bool true,MM (VL nl ex sz rs) (vals rs) L (visM (vals rs) h o).1 o) := by
  have h6 := D.le6
  have h4 := D.le4
  have hbox : (RR (VL nl ex sz rs) L h o ++ [⟨[VL nl ex sz rs,SLo 5 L],true⟩])[(RR (VL nl ex sz rs) L h o).length]? = some ⟨[VL nl ex sz rs,SLo 5 L],true⟩ := by rw [List.getElem?_append_right (by omega)]; simp
  have hR2 : ∀ X : LMem,(RR (VL nl ex sz rs) L h o ++ X)[2]? = some ⟨o.map (LV.int .i64),ownM L h⟩ := fun X => rfl
  have hf := fun a b c => ownP_m nl ex sz (dok_len D ho) (m := a :: b :: c :: (RR (VL nl ex sz rs) L h o ++ [⟨[VL nl ex sz rs,SLo 5 L],true⟩])) (i := 5) (b := ownM L h) rfl ho
  have hcl := fun a b c => clone_m (g := 0) (m := a :: b :: c :: (RR (VL nl ex sz rs) L h o ++ [⟨[VL nl ex sz rs,SLo 5 L],true⟩])) (i := 5) (b := ownM L h) (o := o) rfl ho (by omega)
  have hol := ownL_length (vals rs) o 0 rs.length
  have hlp := fun K m => pmost_loop (ownL (vals rs) o 0 rs.length) (by omega) K m (ownL (vals rs) o 0 rs.length).length 0 (0,1) (by omega)
  have hpo : prodF (ownL (vals rs) o 0 rs.length) (0,1) = prodO (vals rs) o := by unfold prodO; rw [vals_length]
  simp only [List.drop_zero,hpo,Int.natCast_zero] at hlp
  have hcut := trim_cut (MM (VL nl ex sz rs) (vals rs) L h o) [⟨[VL nl ex sz rs,SLo 5 L],true⟩] true (below_MM _ (under_VL nl ex sz rs) _ L h o)
  rw [clF_eq,lp_share_Most_1]
  simp only [callMode,share_Most_1]
  by_cases c : gtP (prodO (vals rs) o) (curP (vals rs) h) = true
  · have e : (visM (vals rs) h o).1 = o :: h := by simp only [visM]; rw [if_pos c]
    rw [e]
    have hcut2 := trim_cut (MM (VL nl ex sz rs) (vals rs) L (o :: h) o) [⟨[VL nl ex sz rs,SLo 5 L],true⟩] true (below_MM _ (under_VL nl ex sz rs) _ L (o :: h) o)
    have hcv : ∀ i,(CV i L).cells = some [CV i L] := fun i => by unfold CV; split <;> rfl
    have hca : ∀ l,(LV.agg l).cells = some l := fun _ => rfl
    have hci : ∀ k n,(LV.int k n).cells = some [LV.int k n] := fun _ _ => rfl
    have hsi : ∀ k n,(LV.int k n).scalar = true := fun _ _ => rfl
    have hsv : ∀ i,(CV i L).scalar = true := fun i => by unfold CV; split <;> rfl
    have hRl := RR_length (VL nl ex sz rs) L h o
    have hHl := histM_length (VL nl ex sz rs) L h
    have hcc : (curP (vals rs) h).1 < (prodO (vals rs) o).1 ∨ (¬ (curP (vals rs) h).1 < (prodO (vals rs) o).1 ∧ (prodO (vals rs) o).1 = (curP (vals rs) h).1 ∧ (curP (vals rs) h).2 < (prodO (vals rs) o).2) := by
      unfold gtP at c
      rw [Bool.or_eq_true,Bool.and_eq_true,decide_eq_true_eq,decide_eq_true_eq,decide_eq_true_eq] at c
      omega
    generalize ownL (vals rs) o 0 rs.length = own at *
    by_cases hL : L = 0
    · have hone : o = [] := List.length_eq_zero_iff.1 (by omega)
      have hfz : ∀ a b c : LBlk,freeze [5] (a :: b :: c :: (RR (VL nl ex sz rs) L h o ++ [⟨[VL nl ex sz rs,SLo 5 L],true⟩])) = a :: b :: c :: (RR (VL nl ex sz rs) L (o :: h) o ++ [⟨[VL nl ex sz rs,SLo 5 L],true⟩]) := fun a b c => by
        simp [freeze,freeze1,RR,histM,ownM,hL,hone]
      have hcl : ∀ a b c,clF LP n_slices_Clone_int_int [.sl 5 0 L L 0 1 L] (a :: b :: c :: (RR (VL nl ex sz rs) L h o ++ [⟨[VL nl ex sz rs,SLo 5 L],true⟩])) = some (.O,CV (7 + 2 * (h.length + 1)) L,a :: b :: c :: (RR (VL nl ex sz rs) L (o :: h) o ++ [⟨[VL nl ex sz rs,SLo 5 L],true⟩])) := fun a b c => by
        rw [hcl a b c,if_pos hL,hfz]
        simp [CV,hL]
      have hlen : (RR (VL nl ex sz rs) L (o :: h) o).length = (RR (VL nl ex sz rs) L h o).length := by simp [RR,histM,hL]
      simp only [MM,List.cons_append,List.length_cons,hlen,outM,curP] at hcut2
      have hgoal : MM (VL nl ex sz rs) (vals rs) L (o :: h) o = ⟨[CV (7 + 2 * (h.length + 1)) L],true⟩ :: ⟨[.int .i64 (prodO (vals rs) o).1],true⟩ :: ⟨[.int .i64 (prodO (vals rs) o).2],true⟩ :: RR (VL nl ex sz rs) L (o :: h) o := rfl
      rw [hgoal]
      simp only [MM]
      rcases hcc with c1 | ⟨c1,c2,c3⟩
      · simp only [share_Most_1.B,beqF,exF_seq,exF_region,exF_block,exF_cond,exF_ret,runL,wantL,stepL,evL,evC,LEnv.at,putL,loadFine,loadL,cellsAt,Trk.putNew,Trk.up,Trk.touch,Trk.gives,Trk.calm,Trk.hit,opdsOf,Trk.fresh,LEnv.keep,LEnv.ofFrom,List.map_cons,List.map_nil,nbeq,nble,ofAVs,lenL,bin_gtr,List.any_cons,List.any_nil,Bool.or_false,Bool.false_or,Bool.true_or,Bool.or_true,Bool.and_true,Bool.false_and,Bool.not_true,Bool.not_false,Nat.reduceEqDiff,decide_true,decide_false,cond_true,cond_false,List.filter_nil,Nat.reduceAdd,Nat.reduceLeDiff,reduceCtorEq,List.length_nil,List.length_cons,eq_self,retL,resultsL,resAllL,resOfL,List.append_nil,List.nil_append,allocL,List.getElem?_cons_zero,List.getElem?_cons_succ,storeL,spliceL,List.take_zero,List.take_succ_cons,List.drop_zero,List.drop_succ_cons,List.drop_nil,List.take_nil,Nat.le_refl,List.set_cons_zero,List.set_cons_succ,List.all_cons,List.all_nil,List.cons_append,hf,hlp,hbox,c1,hcl,hcv,hca,hci,hsi,hsv,hcut2]
      · rw [c2] at hcut2
        simp only [share_Most_1.B,beqT,beqF,exF_seq,exF_region,exF_block,exF_cond,exF_ret,runL,wantL,stepL,evL,evC,LEnv.at,putL,loadFine,loadL,cellsAt,Trk.putNew,Trk.up,Trk.touch,Trk.gives,Trk.calm,Trk.hit,opdsOf,Trk.fresh,LEnv.keep,LEnv.ofFrom,List.map_cons,List.map_nil,nbeq,nble,ofAVs,lenL,bin_eql,bin_gtr,List.any_cons,List.any_nil,Bool.or_false,Bool.false_or,Bool.true_or,Bool.or_true,Bool.and_true,Bool.false_and,Bool.not_true,Bool.not_false,Nat.reduceEqDiff,decide_true,decide_false,cond_true,cond_false,List.filter_nil,Nat.reduceAdd,Nat.reduceLeDiff,reduceCtorEq,List.length_nil,List.length_cons,eq_self,retL,resultsL,resAllL,resOfL,List.append_nil,List.nil_append,allocL,List.getElem?_cons_zero,List.getElem?_cons_succ,storeL,spliceL,List.take_zero,List.take_succ_cons,List.drop_zero,List.drop_succ_cons,List.drop_nil,List.take_nil,Nat.le_refl,List.set_cons_zero,List.set_cons_succ,List.all_cons,List.all_nil,List.cons_append,hf,hlp,hbox,c2,c3,hcl,hcv,hca,hci,hsi,hsv,hcut2,Int.lt_irrefl]
    · have hRR : RR (VL nl ex sz rs) L (o :: h) o = RR (VL nl ex sz rs) L h o ++ [⟨[VL nl ex sz rs,SLo 5 L],true⟩,⟨o.map (LV.int .i64),true⟩] := by
        cases h <;> simp [RR,histM,ownM,hL]
      rw [if_neg hL] at hHl
      have hcl : ∀ a b c,clF LP n_slices_Clone_int_int [.sl 5 0 L L 0 1 L] (a :: b :: c :: (RR (VL nl ex sz rs) L h o ++ [⟨[VL nl ex sz rs,SLo 5 L],true⟩])) = some (.O,CV (7 + 2 * (h.length + 1)) L,a :: b :: c :: RR (VL nl ex sz rs) L (o :: h) o) := fun a b c => by
        rw [hcl a b c,if_neg hL,hRR]
        have : (a :: b :: c :: (RR (VL nl ex sz rs) L h o ++ [⟨[VL nl ex sz rs,SLo 5 L],true⟩]) : LMem).length = 7 + 2 * (h.length + 1) := by
          simp only [List.length_cons,List.length_append,List.length_nil]; omega
        rw [this]
        simp
      have hout : ∀ b c r,trim ((RR (VL nl ex sz rs) L h o).length + 1 + 1 + 1) [.bool true] (⟨[CV (7 + 2 * (h.length + 1)) L],true⟩ :: b :: c :: r) = ⟨[CV (7 + 2 * (h.length + 1)) L],true⟩ :: b :: c :: r := fun b c r => by
        refine trim_out _ _ _ _ (by omega) ?_
        simp [CV,hL,LV.unders,LV.under,nblt]
        omega
      have hgoal : MM (VL nl ex sz rs) (vals rs) L (o :: h) o = ⟨[CV (7 + 2 * (h.length + 1)) L],true⟩ :: ⟨[.int .i64 (prodO (vals rs) o).1],true⟩ :: ⟨[.int .i64 (prodO (vals rs) o).2],true⟩ :: RR (VL nl ex sz rs) L (o :: h) o := rfl
      rw [hgoal]
      simp only [MM]
      rcases hcc with c1 | ⟨c1,c2,c3⟩
      · simp only [share_Most_1.B,beqF,exF_seq,exF_region,exF_block,exF_cond,exF_ret,runL,wantL,stepL,evL,evC,LEnv.at,putL,loadFine,loadL,cellsAt,Trk.putNew,Trk.up,Trk.touch,Trk.gives,Trk.calm,Trk.hit,opdsOf,Trk.fresh,LEnv.keep,LEnv.ofFrom,List.map_cons,List.map_nil,nbeq,nble,ofAVs,lenL,bin_gtr,List.any_cons,List.any_nil,Bool.or_false,Bool.false_or,Bool.true_or,Bool.or_true,Bool.and_true,Bool.false_and,Bool.not_true,Bool.not_false,Nat.reduceEqDiff,decide_true,decide_false,cond_true,cond_false,List.filter_nil,Nat.reduceAdd,Nat.reduceLeDiff,reduceCtorEq,List.length_nil,List.length_cons,eq_self,retL,resultsL,resAllL,resOfL,List.append_nil,List.nil_append,allocL,List.getElem?_cons_zero,List.getElem?_cons_succ,storeL,spliceL,List.take_zero,List.take_succ_cons,List.drop_zero,List.drop_succ_cons,List.drop_nil,List.take_nil,Nat.le_refl,List.set_cons_zero,List.set_cons_succ,List.all_cons,List.all_nil,List.cons_append,hf,hlp,hbox,c1,hcl,hcv,hca,hci,hsi,hsv,hout]
      · simp only [share_Most_1.B,beqT,beqF,exF_seq,exF_region,exF_block,exF_cond,exF_ret,runL,wantL,stepL,evL,evC,LEnv.at,putL,loadFine,loadL,cellsAt,Trk.putNew,Trk.up,Trk.touch,Trk.gives,Trk.calm,Trk.hit,opdsOf,Trk.fresh,LEnv.keep,LEnv.ofFrom,List.map_cons,List.map_nil,nbeq,nble,ofAVs,lenL,bin_eql,bin_gtr,List.any_cons,List.any_nil,Bool.or_false,Bool.false_or,Bool.true_or,Bool.or_true,Bool.and_true,Bool.false_and,Bool.not_true,Bool.not_false,Nat.reduceEqDiff,decide_true,decide_false,cond_true,cond_false,List.filter_nil,Nat.reduceAdd,Nat.reduceLeDiff,reduceCtorEq,List.length_nil,List.length_cons,eq_self,retL,resultsL,resAllL,resOfL,List.append_nil,List.nil_append,allocL,List.getElem?_cons_zero,List.getElem?_cons_succ,storeL,spliceL,List.take_zero,List.take_succ_cons,List.drop_zero,List.drop_succ_cons,List.drop_nil,List.take_nil,Nat.le_refl,List.set_cons_zero,List.set_cons_succ,List.all_cons,List.all_nil,List.cons_append,hf,hlp,hbox,c2,c3,hcl,hcv,hca,hci,hsi,hsv,hout,Int.lt_irrefl]
  · have e : (visM (vals rs) h o).1 = h := by simp only [visM]; rw [if_neg c]
    rw [e]
    simp only [MM,List.cons_append,List.length_cons] at hcut ⊢
    have c1 : ¬ ((curP (vals rs) h).1 < (prodO (vals rs) o).1) := by
      intro d; apply c; simp [gtP,d]
    generalize ownL (vals rs) o 0 rs.length = own at *
    by_cases c2 : (prodO (vals rs) o).1 = (curP (vals rs) h).1
    · have c3 : ¬ ((curP (vals rs) h).2 < (prodO (vals rs) o).2) := by
        intro d; apply c; simp [gtP,d,c2]
      simp only [share_Most_1.B,beqT,beqF,exF_seq,exF_region,exF_block,exF_cond,exF_ret,exF_skip,runL,wantL,stepL,evL,evC,LEnv.at,putL,loadFine,loadL,cellsAt,Trk.putNew,Trk.up,Trk.touch,Trk.gives,Trk.calm,Trk.hit,opdsOf,Trk.fresh,LEnv.keep,LEnv.ofFrom,List.map_cons,List.map_nil,nbeq,nble,ofAVs,lenL,bin_eql,bin_gtr,List.any_cons,List.any_nil,Bool.or_false,Bool.false_or,Bool.true_or,Bool.or_true,Bool.and_true,Bool.false_and,Bool.not_true,Bool.not_false,Nat.reduceEqDiff,decide_true,decide_false,cond_true,cond_false,List.filter_nil,Nat.reduceAdd,Nat.reduceLeDiff,reduceCtorEq,List.length_nil,List.length_cons,eq_self,retL,resultsL,resAllL,resOfL,List.append_nil,List.nil_append,List.cons_append,LV.cells,allocL,List.getElem?_cons_zero,List.getElem?_cons_succ,List.take_succ_cons,List.drop_zero,List.take_nil,Nat.le_refl,hf,hlp,hbox,c2,c3,hcut,Int.lt_irrefl]
    · simp only [share_Most_1.B,beqT,beqF,exF_seq,exF_region,exF_block,exF_cond,exF_ret,exF_skip,runL,wantL,stepL,evL,evC,LEnv.at,putL,loadFine,loadL,cellsAt,Trk.putNew,Trk.up,Trk.touch,Trk.gives,Trk.calm,Trk.hit,opdsOf,Trk.fresh,LEnv.keep,LEnv.ofFrom,List.map_cons,List.map_nil,nbeq,nble,ofAVs,lenL,bin_eql,bin_gtr,List.any_cons,List.any_nil,Bool.or_false,Bool.false_or,Bool.true_or,Bool.or_true,Bool.and_true,Bool.false_and,Bool.not_true,Bool.not_false,Nat.reduceEqDiff,decide_true,decide_false,cond_true,cond_false,List.filter_nil,Nat.reduceAdd,Nat.reduceLeDiff,reduceCtorEq,List.length_nil,List.length_cons,eq_self,retL,resultsL,resAllL,resOfL,List.append_nil,List.nil_append,List.cons_append,LV.cells,allocL,List.getElem?_cons_zero,List.getElem?_cons_succ,List.take_succ_cons,List.drop_zero,List.take_nil,Nat.le_refl,hf,hlp,hbox,c1,c2,hcut]
def XM (nl ex : Bool) (sz : Nat) {rs : List Row} {L : Nat} (D : VOk rs L) : Vis (List (List Int)) (VL nl ex sz rs) rs.length L where
  mem := MM (VL nl ex sz rs) (vals rs) L
  vis := visM (vals rs)
  good := fun _ => True
  f := n_share_Most_1
  first := []
  cap := [.ptr 1 0 1,.ptr 2 0 1,.ptr 0 0 1]
  d := 6
  b := 5
  iv := 3
  ip := 7
  own := ownM L
  hown := fun s h => by cases s <;> simp [ownM]; omega
  hd := fun _ _ _ => rfl
  hb := fun _ _ _ => rfl
  hv := fun _ _ _ => rfl
  hp := fun _ _ _ => rfl
  hset := fun s _ _ _ _ h => by
    have : ownM L s = true := by cases s <;> simp [ownM]; omega
    simp [MM,RR,this]
  htrim := fun s l o o' c _ h1 h2 => by
    have hl : ∀ (s : List (List Int)) (o : List Int),(MM (VL nl ex sz rs) (vals rs) L s o).length = 8 + (if L = 0 then 0 else 2 * s.length) := fun s o => by
      simp only [MM,List.length_cons,RR_length,histM_length]; omega
    rcases runM_ext (vals rs) l s with e | e
    · rw [e]
      exact trim_le _ _ _ (by rw [hl,hl]; omega)
    · generalize (runV (visM (vals rs)) s l).1 = r at *
      by_cases h : L = 0
      · exact trim_le _ _ _ (by rw [hl,hl,if_pos h,if_pos h]; omega)
      · cases r with
        | nil => simp at e
        | cons q t =>
          refine trim_out _ _ _ _ (by rw [hl]; omega) ?_
          rw [hl,if_neg h]
          simp only [List.length_cons] at e
          simp [outM,CV,h,LV.unders,LV.under,nblt]
          omega
  hvis := fun s o _ ho => most1_c nl ex sz D s o ho
  hgood := fun _ _ _ _ _ => trivial
theorem histM_last (V : LV) (L : Nat) (hL : L ≠ 0) (q : List Int) (h : List (List Int)) : (histM V L (q :: h))[2 * h.length + 1]? = some ⟨q.map (LV.int .i64),true⟩ := by
  rw [histM,List.getElem?_append_right (by rw [histM_length,if_neg hL]; omega),histM_length,if_neg hL,if_neg hL,show 2 * h.length + 1 - 2 * h.length = 1 by omega]
  rfl
theorem each_most (nl ex : Bool) (sz : Nat) {rs : List Row} {L : Nat} (D : VOk rs L) :
    ∃ m' b r n,allD rs.length L = b :: r ∧ clF LP n_share_each [VL nl ex sz rs,.func n_share_Most_1 [] [.ptr 1 0 1,.ptr 2 0 1,.ptr 0 0 1]] [⟨[LNIL],true⟩,⟨[.int .i64 (-1)],true⟩,⟨[.int .i64 0],true⟩] = some (.W,.tup [],m') ∧
      m'[0]? = some ⟨[CV n L],true⟩ ∧ (L ≠ 0 → m'[n]? = some ⟨(mostF (vals rs) b r).map (LV.int .i64),true⟩) := by
  have h0 : (nones L).length = L := by simp [nones]
  obtain ⟨o',q1,q2,q3⟩ := put_c nl ex sz D.le4 D.le6 (XM nl ex sz D) L 0 [] (nones L) (by omega) h0 trivial
  have hm : ((allR rs.length L).map fun q => (nones L).take 0 ++ q) = allR rs.length L := by simp
  rw [hm,allR_D] at q3
  have hl := D.len 0 D.pos
  have he := fun m => empty_c nl ex sz rs D.pos (by rw [hl]; exact D.le6) m
  rw [hl] at he
  simp only [XM,Int.natCast_zero] at q3
  have hln := allD_length rs.length L
  cases hA : allD rs.length L with
  | nil =>
    exfalso
    rw [hA] at hln
    have : 0 < rs.length ^ L := Nat.pow_pos D.pos
    simp at hln; omega
  | cons b r =>
    rw [hA] at q3
    obtain ⟨t,ht⟩ := most_first (vals rs) (by rw [vals_length]; exact D.le4) b r
    rw [ht] at q3
    have q3' : ∀ x,clF LP n_share_each_1 [.int .i64 0,.ptr 6 0 2,.ptr 3 0 1,.ptr 7 0 1] [⟨[LNIL],true⟩,⟨[.int .i64 (-1)],true⟩,⟨[.int .i64 0],true⟩,⟨[.func n_share_Most_1 [] [.ptr 1 0 1,.ptr 2 0 1,.ptr 0 0 1]],true⟩,⟨[VL nl ex sz rs,SLo 5 L],true⟩,⟨(nones L).map (LV.int .i64),true⟩,⟨[VL nl ex sz rs,SLo 5 L],true⟩,⟨[PUT 3],true⟩] = x → clF LP n_share_each_1 [.int .i64 0,.ptr 6 0 2,.ptr 3 0 1,.ptr 7 0 1] (MM (VL nl ex sz rs) (vals rs) L [] (nones L)) = x := fun x h => h
    have q4 := q3' _ rfl
    rw [q3] at q4
    refine ⟨trim 3 [.tup []] (MM (VL nl ex sz rs) (vals rs) L (mostF (vals rs) b r :: t) o'),b,r,7 + 2 * (t.length + 1),rfl,?_,?_,?_⟩
    · rw [clF_eq,lp_share_each]
      simp only [callMode,share_each]
      simp only [share_each.B,exF_seq,exF_region,runL,wantL,stepL,evL,evC,LEnv.at,putL,loadFine,loadL,cellsAt,Trk.calm,Trk.hit,LEnv.keep,LEnv.ofFrom,List.map_cons,List.map_nil,nbeq,nble,ofAV,ofAVs,List.any_nil,Bool.or_false,Bool.or_true,Bool.and_true,Bool.false_and,Bool.not_true,Bool.not_false,Nat.reduceEqDiff,decide_true,decide_false,cond_true,cond_false,Nat.reduceAdd,Nat.reduceLeDiff,reduceCtorEq,List.length_nil,List.length_cons,eq_self,retL,resultsL,resAllL,List.append_nil,List.nil_append,List.cons_append,LV.cells,allocL,List.getElem?_cons_zero,List.getElem?_cons_succ,storeL,spliceL,List.take_zero,List.take_succ_cons,List.drop_zero,List.drop_succ_cons,List.drop_nil,List.take_nil,Nat.le_refl,List.set_cons_zero,List.set_cons_succ,LV.scalar,List.all_cons,List.all_nil,he,← q4]
    · by_cases h : L = 0
      · simp [trim,MM,outM,h,CV,belowM,LV.unders,LV.under]
      · rw [MM,trim_out _ _ _ _ (by omega) (by simp [outM,CV,h,LV.unders,LV.under,nblt]; omega)]
        rfl
    · intro h
      rw [MM,trim_out _ _ _ _ (by omega) (by simp [outM,CV,h,LV.unders,LV.under,nblt]; omega)]
      have := histM_last (VL nl ex sz rs) L h (mostF (vals rs) b r) t
      rw [show 7 + 2 * (t.length + 1) = (2 * t.length + 1) + 5 + 1 + 1 + 1 by omega]
      simpa [RR] using this
end Share
end Go.Am
