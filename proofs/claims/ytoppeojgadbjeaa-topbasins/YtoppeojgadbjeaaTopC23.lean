import Derived.Test.YtoppeojgadbjeaaTopC20
import Derived.Test.YtoppeojgadbjeaaTopC22
import Derived.Test.YtoppeojgadbjeaaTopC13
set_option linter.unusedVariables false
set_option linter.unusedSimpArgs false
set_option maxRecDepth 10000
namespace Go.Am.Top
open Go.Am.G
def inCommon (l o : List Nat) : Nat := (o.map fun x => l.count x).sum
theorem common_filter {l : List Nat} (hl : l.Nodup) : ∀ o : List Nat,inCommon l o = (o.filter fun x => decide (x ∈ l)).length
  | [] => rfl
  | x :: o => by
    have ih := common_filter hl o
    unfold inCommon at ih ⊢
    rw [List.map_cons,List.sum_cons,ih,List.filter_cons]
    by_cases h : x ∈ l
    · rw [List.Nodup.count hl,if_pos h,decide_eq_true h,if_pos rfl,List.length_cons]; omega
    · rw [List.Nodup.count hl,if_neg h,decide_eq_false h,if_neg (by simp)]; omega
theorem common_ok {l o : List Nat} (hl : l.Nodup) (ho : o.Nodup) (h : (∀ x ∈ l,x ∈ o) ∨ (∀ x ∈ o,x ∈ l) ∨ ∀ x ∈ o,x ∉ l) : inCommon l o = 0 ∨ inCommon l o = min l.length o.length := by
  rw [common_filter hl]
  rcases h with h | h | h
  · right
    have hp : (o.filter fun x => decide (x ∈ l)).Perm l := (List.perm_ext_iff_of_nodup (ho.filter _) hl).2 fun x => by
      rw [List.mem_filter,decide_eq_true_eq]
      exact ⟨fun c => c.2,fun c => ⟨h x c,c⟩⟩
    have hle := List.Nodup.length_le_of_subset hl (l₂ := o) h
    rw [hp.length_eq]; omega
  · right
    have e : (o.filter fun x => decide (x ∈ l)) = o := List.filter_eq_self.2 fun x hx => decide_eq_true (h x hx)
    have hle := List.Nodup.length_le_of_subset ho (l₂ := l) h
    rw [e]; omega
  · left
    have e : (o.filter fun x => decide (x ∈ l)) = [] := List.filter_eq_nil_iff.2 fun x hx => by simpa using h x hx
    rw [e]; rfl
theorem asc_nodup {l : List Nat} (h : ∀ i (hi : i + 1 < l.length),l[i] < l[i + 1]) : l.Nodup := by
  have hp : ∀ d i (hi : i + d + 1 < l.length),l[i]'(by omega) < l[i + d + 1] := by
    intro d
    induction d with
    | zero => intro i hi; exact h i hi
    | succ d ih =>
      intro i hi
      have h1 := ih i (by omega)
      have h2 := h (i + d + 1) (by omega)
      exact Nat.lt_trans h1 h2
  refine List.nodup_iff_pairwise_ne.2 (List.pairwise_iff_getElem.2 fun i j hi hj hij => ?_)
  have := hp (j - i - 1) i (by omega)
  have e : l[i + (j - i - 1) + 1] = l[j] := by congr 1; omega
  rw [e] at this
  omega
theorem in0_loop (l : List Nat) (hl : l.length ≤ 100) (nl ex : Bool) (sz x : Nat) (v7 v8 v9 v13 v16 v51 v52 v73 v74 v75 v79 v80 v81 : LV) (m : LMem) (t : Nat) : ∀ (j b : Nat),j + t = l.length → b ≤ 10000 + j →
    exF LP top_TopBasins.L0 [(7,v7),(8,v8),(9,v9),(13,v13),(16,v16),(17,.int .i64 (b : Int)),(19,.int .i64 (x : Int)),(51,v51),(52,v52),(73,v73),(74,v74),(75,v75),(79,v79),(80,v80),(81,v81),(85,IL nl ex sz (ci l)),(86,.int .i64 (l.length : Int)),(87,.int .i64 (j : Int))] m =
      some (.exit 6,[(7,v7),(8,v8),(9,v9),(13,v13),(16,v16),(17,.int .i64 ((b + (l.drop j).count x : Nat) : Int)),(51,v51),(52,v52),(73,v73),(74,v74),(75,v75),(79,v79),(80,v80),(81,v81)],m) := by
  induction t with
  | zero =>
    intro j b hj hb
    obtain rfl : j = l.length := by omega
    rw [top_TopBasins.L0_eq,List.drop_length]
    simp only [top_TopBasins.B0,exF_seq,exF_region,exF_cond,exF_exit,runL,wantL,stepL,evL,LEnv.at,putL,loadFine,LEnv.keep,List.map_cons,List.map_nil,nbeq,bin_lss,Nat.reduceEqDiff,decide_true,decide_false,cond_true,cond_false,eq_self,Int.lt_irrefl,List.count_nil,Nat.add_zero]
  | succ t ih =>
    intro j b hj hb
    have h2 : j < l.length := by omega
    have hat := ci_at l j h2
    have wk := wrap_succ (show j + 1 < 9223372036854775808 by omega)
    rw [top_TopBasins.L0_eq,List.drop_eq_getElem_cons h2,List.count_cons]
    generalize l[j] = y at *
    by_cases c : y = x
    · subst c
      have ih := ih (j + 1) (b + 1) (by omega) (by omega)
      have wb := wrap_succ (show b + 1 < 9223372036854775808 by omega)
      simp only [top_TopBasins.B0,exF_seq,exF_region,exF_block,exF_cond,exF_skip,runL,wantL,stepL,evL,evC,LEnv.at,putL,loadFine,loadL,cellsAt,Trk.putNew,Trk.up,Trk.touch,Trk.gives,Trk.calm,opdsOf,Trk.fresh,LEnv.keep,List.map_cons,List.map_nil,nbeq,nble,nblt,bin_add,bin_eql,bin_lss,natL_nat,List.any_cons,List.any_nil,Bool.or_false,Bool.or_true,Bool.and_true,Bool.false_and,Bool.not_true,Bool.not_false,Nat.reduceEqDiff,decide_true,decide_false,cond_true,cond_false,List.filter_nil,Nat.reduceAdd,Nat.reduceLeDiff,Nat.mul_one,eq_self,show (j : Int) < (l.length : Int) by omega,List.length_map,h2,hat,wb,wk,ih]
      simp only [beq_self_eq_true,if_true]
      rw [show b + 1 + (l.drop (j + 1)).count y = b + ((l.drop (j + 1)).count y + 1) by omega]
    · have ih := ih (j + 1) b (by omega) (by omega)
      simp only [top_TopBasins.B0,exF_seq,exF_region,exF_block,exF_cond,exF_skip,runL,wantL,stepL,evL,evC,LEnv.at,putL,loadFine,loadL,cellsAt,Trk.putNew,Trk.up,Trk.touch,Trk.gives,Trk.calm,opdsOf,Trk.fresh,LEnv.keep,List.map_cons,List.map_nil,nbeq,nble,nblt,bin_add,bin_eql,bin_lss,natL_nat,List.any_cons,List.any_nil,Bool.or_false,Bool.or_true,Bool.and_true,Bool.false_and,Bool.not_true,Bool.not_false,Nat.reduceEqDiff,decide_true,decide_false,cond_true,cond_false,List.filter_nil,Nat.reduceAdd,Nat.reduceLeDiff,Nat.mul_one,eq_self,show (j : Int) < (l.length : Int) by omega,List.length_map,h2,hat,show ¬ (x : Int) = (y : Int) by omega,wk,ih]
      rw [show (y == x) = false by simpa using c]
      simp
theorem in1_loop (l o : List Nat) (hl : l.length ≤ 36) (ho : o.length ≤ 36) (nl ex : Bool) (sz : Nat) (nl2 ex2 : Bool) (sz2 : Nat) (v7 v8 v9 v16 v51 v52 v73 v74 v75 : LV) (m : LMem) (t : Nat) : ∀ (j b : Nat),j + t = o.length → b ≤ 36 * j →
    exF LP top_TopBasins.L1 [(7,v7),(8,v8),(9,v9),(13,IL nl ex sz (ci l)),(16,v16),(17,.int .i64 (b : Int)),(51,v51),(52,v52),(73,v73),(74,v74),(75,v75),(79,IL nl2 ex2 sz2 (ci o)),(80,.int .i64 (o.length : Int)),(81,.int .i64 (j : Int))] m =
      some (.exit 4,[(7,v7),(8,v8),(9,v9),(13,IL nl ex sz (ci l)),(16,v16),(17,.int .i64 ((b + inCommon l (o.drop j) : Nat) : Int)),(51,v51),(52,v52),(73,v73),(74,v74),(75,v75)],m) := by
  induction t with
  | zero =>
    intro j b hj hb
    obtain rfl : j = o.length := by omega
    rw [top_TopBasins.L1_eq,List.drop_length]
    simp only [top_TopBasins.B1,exF_seq,exF_region,exF_cond,exF_exit,runL,wantL,stepL,evL,LEnv.at,putL,loadFine,LEnv.keep,List.map_cons,List.map_nil,nbeq,bin_lss,Nat.reduceEqDiff,decide_true,decide_false,cond_true,cond_false,eq_self,Int.lt_irrefl]
    rfl
  | succ t ih =>
    intro j b hj hb
    have h2 : j < o.length := by omega
    have hat := ci_at o j h2
    have wk := wrap_succ (show j + 1 < 9223372036854775808 by omega)
    have hcl : ((ci l).length : Int) = (l.length : Int) := by simp
    have h0 := in0_loop l (by omega) nl ex sz o[j] v7 v8 v9 (IL nl ex sz (ci l)) v16 v51 v52 v73 v74 v75 (IL nl2 ex2 sz2 (ci o)) (.int .i64 (o.length : Int)) (.int .i64 (j : Int)) m l.length 0 b (by omega) (by omega)
    rw [List.drop_zero] at h0
    have hcnt : l.count o[j] ≤ l.length := List.count_le_length
    have ih := ih (j + 1) (b + l.count o[j]) (by omega) (by rw [Nat.mul_add]; omega)
    have e : inCommon l (o.drop j) = l.count o[j] + inCommon l (o.drop (j + 1)) := by
      unfold inCommon
      rw [List.drop_eq_getElem_cons h2,List.map_cons,List.sum_cons]
    rw [top_TopBasins.L1_eq,e]
    simp only [Int.natCast_zero] at h0
    generalize o[j] = y at *
    simp only [top_TopBasins.B1,exF_seq,exF_region,exF_block,exF_cond,exF_skip,runL,wantL,stepL,evL,evC,LEnv.at,putL,loadFine,loadL,cellsAt,Trk.putNew,Trk.up,Trk.touch,Trk.gives,Trk.calm,opdsOf,Trk.fresh,LEnv.keep,List.map_cons,List.map_nil,nbeq,nble,nblt,lenL,bin_add,bin_lss,natL_nat,List.any_cons,List.any_nil,Bool.or_false,Bool.or_true,Bool.and_true,Bool.false_and,Bool.not_true,Bool.not_false,Nat.reduceEqDiff,decide_true,decide_false,cond_true,cond_false,List.filter_nil,Nat.reduceAdd,Nat.reduceLeDiff,Nat.mul_one,eq_self,show (j : Int) < (o.length : Int) by omega,List.length_map,h2,hat,h0,wk,ih,Nat.add_assoc]
def MB (w : List Nat) (r c : Nat) (hs : List Int) (R : List (Bool × List Nat)) : LMem :=
  ⟨u8s w,true⟩ :: ⟨SH r c false false 1 hs,true⟩ :: ⟨[.int .i64 (hs.length : Int),GVc 3 1 R.length],true⟩ :: GMc R.length (rowsP R)
theorem in2_loop (w : List Nat) (r c : Nat) (hs : List Int) (R : List (Bool × List Nat)) (l : List Nat) (hl : l.length ≤ 36) (hR : ∀ q ∈ R,q.2.length ≤ 36 ∧ (inCommon l q.2 = 0 ∨ inCommon l q.2 = min l.length q.2.length)) (hk : R.length ≤ 1000) (nl ex : Bool) (sz : Nat) (v7 v8 v9 v51 v52 : LV) (t : Nat) : ∀ j,j + t = R.length →
    exF LP top_TopBasins.L2 [(7,v7),(8,v8),(9,v9),(13,IL nl ex sz (ci l)),(51,v51),(52,v52),(73,GVc 3 1 R.length),(74,.int .i64 (R.length : Int)),(75,.int .i64 (j : Int))] (MB w r c hs R) =
      some (.exit 2,[(7,v7),(8,v8),(9,v9),(13,IL nl ex sz (ci l)),(51,v51),(52,v52)],MB w r c hs R) := by
  induction t with
  | zero =>
    intro j hj
    obtain rfl : j = R.length := by omega
    rw [top_TopBasins.L2_eq]
    simp only [top_TopBasins.B2,exF_seq,exF_region,exF_cond,exF_exit,runL,wantL,stepL,evL,LEnv.at,putL,loadFine,LEnv.keep,List.map_cons,List.map_nil,nbeq,bin_lss,Nat.reduceEqDiff,decide_true,decide_false,cond_true,cond_false,eq_self,Int.lt_irrefl]
  | succ t ih =>
    intro j hj
    have h2 : j < R.length := by omega
    have ih := ih (j + 1) (by omega)
    have hat := rowP_at R j h2
    obtain ⟨hq1,hq2⟩ := hR _ (List.getElem_mem h2)
    have wk := wrap_succ (show j + 1 < 9223372036854775808 by omega)
    have eg : GVc 3 1 R.length = .sl 3 0 R.length R.length 1 1 R.length := by unfold GVc; rw [if_neg (by omega),Nat.mul_one]
    have hM3 : (MB w r c hs R)[3]? = some ⟨rowsP R,true⟩ := by
      unfold MB GMc; rw [if_neg (by omega)]; rfl
    have hrl : (rowsP R).length = R.length := by simp
    have h1 := fun v73 v74 v75 => in1_loop l (R[j]).2 hl hq1 nl ex sz false (R[j]).1 1 v7 v8 v9 (IL false (R[j]).1 1 (ci (R[j]).2)) v51 v52 v73 v74 v75 (MB w r c hs R) (R[j]).2.length 0 0 (by omega) (by omega)
    simp only [List.drop_zero,Nat.zero_add,Int.natCast_zero] at h1
    rw [eg] at ih ⊢
    have hcl : ∀ o : List Nat,(ci o).length = o.length := fun o => by simp
    generalize inCommon l (R[j]).2 = ic at *
    generalize (R[j]).2 = o at *
    generalize (R[j]).1 = eo at *
    generalize MB w r c hs R = M at *
    generalize rowsP R = rows at *
    have hmin : (if (o.length : Int) < (l.length : Int) then (o.length : Int) else (l.length : Int)) = ((min l.length o.length : Nat) : Int) := by split <;> omega
    rw [top_TopBasins.L2_eq]
    by_cases h0 : ic = 0
    · subst h0
      simp only [Int.natCast_zero] at h1
      simp only [top_TopBasins.B2,top_TopBasins.B2.R0,beqT,exF_seq,exF_region,exF_block,exF_cond,exF_skip,runL,wantL,stepL,evL,evC,LEnv.at,putL,loadFine,loadL,cellsAt,Trk.putNew,Trk.up,Trk.touch,Trk.gives,Trk.calm,Trk.hit,opdsOf,Trk.fresh,LEnv.keep,List.map_cons,List.map_nil,nbeq,nble,nblt,lenL,bin_add,bin_neq,bin_lss,natL_nat,List.any_cons,List.any_nil,Bool.or_false,Bool.false_or,Bool.true_or,Bool.and_true,Nat.reduceEqDiff,decide_true,decide_false,cond_true,cond_false,List.filter_nil,Nat.reduceAdd,Nat.reduceLeDiff,Nat.mul_one,eq_self,not_true_eq_false,ne_eq,show (j : Int) < (R.length : Int) by omega,h2,hM3,hrl,Nat.zero_add,hat,hcl,h1,wk,ih]
    · have hic : ic = min l.length o.length := by
        rcases hq2 with e | e
        · exact absurd e h0
        · exact e
      have hne : ¬ ((min l.length o.length : Nat) : Int) = 0 := by omega
      have heq : (ic : Int) = ((min l.length o.length : Nat) : Int) := by omega
      simp only [top_TopBasins.B2,top_TopBasins.B2.R0,beqT,exF_seq,exF_region,exF_block,exF_cond,exF_skip,runL,wantL,stepL,evL,evC,LEnv.at,putL,loadFine,loadL,cellsAt,Trk.putNew,Trk.up,Trk.touch,Trk.gives,Trk.calm,Trk.hit,opdsOf,Trk.fresh,LEnv.keep,List.map_cons,List.map_nil,nbeq,nble,nblt,lenL,bin_add,bin_neq,bin_lss,natL_nat,List.any_cons,List.any_nil,Bool.or_false,Bool.false_or,Bool.true_or,Bool.and_true,Nat.reduceEqDiff,decide_true,decide_false,cond_true,cond_false,List.filter_nil,Nat.reduceAdd,Nat.reduceLeDiff,Nat.mul_one,eq_self,not_true_eq_false,not_false_eq_true,ne_eq,foldIntL,kind_beq,show (j : Int) < (R.length : Int) by omega,h2,hM3,hrl,Nat.zero_add,hat,hcl,h1,hne,hmin,heq,wk,ih]
end Go.Am.Top
set_option maxRecDepth 100000
namespace Go.Am.Top
open Go.Am.G
theorem works_c (m : LMem) : clF LP n_top_stylesWork [] m = some (.P,.bool true,m) := call_run (n := 200) lp_top_stylesWork rfl (by kernel_rfl) m
end Go.Am.Top
set_option linter.unusedVariables false
set_option linter.unusedSimpArgs false
set_option maxRecDepth 10000
namespace Go.Am.Top
open Go.Am.G
structure Bas (hs out : List Int) (c : Nat) (R : List (Bool × List Nat)) : Prop where
  ne : ∀ q ∈ R,q.2 ≠ []
  asc : ∀ q ∈ R,∀ i (h : i + 1 < q.2.length),q.2[i] < q.2[i + 1]
  mem : ∀ q ∈ R,∃ p,p < hs.length ∧ hs.getD p 0 < out.getD p 0 ∧ ∀ x,x ∈ q.2 ↔ Rch c hs.length (fun x => decide (hs.getD x 0 < out.getD p 0)) p x
theorem Bas.lt {hs out : List Int} {c : Nat} {R : List (Bool × List Nat)} (B : Bas hs out c R) : ∀ q ∈ R,∀ x ∈ q.2,x < hs.length := fun q hq x hx => by
  obtain ⟨p,hp,_,h⟩ := B.mem q hq
  exact ((h x).1 hx).lt hp
theorem two_basins {hs out : List Int} {c p q : Nat} {l o : List Nat} (hp : p < hs.length) (hpl : hs.getD p 0 < out.getD p 0) (hq : q < hs.length) (hql : hs.getD q 0 < out.getD q 0)
    (h1 : ∀ x,x ∈ l ↔ Rch c hs.length (fun x => decide (hs.getD x 0 < out.getD p 0)) p x) (h2 : ∀ x,x ∈ o ↔ Rch c hs.length (fun x => decide (hs.getD x 0 < out.getD q 0)) q x) :
    (∀ x ∈ l,x ∈ o) ∨ (∀ x ∈ o,x ∈ l) ∨ ∀ x ∈ o,x ∉ l := by
  by_cases hz : ∃ z,z ∈ l ∧ z ∈ o
  · obtain ⟨z,z1,z2⟩ := hz
    have z1 := (h1 z).1 z1
    have z2 := (h2 z).1 z2
    rcases Int.le_total (out.getD p 0) (out.getD q 0) with hle | hle
    · refine .inl fun x hx => (h2 x).2 (rch_na (fun y hy => ?_) hp (decide_eq_true hpl) z1 z2 ((h1 x).1 hx))
      simp only [decide_eq_true_eq] at hy ⊢
      omega
    · refine .inr (.inl fun x hx => (h1 x).2 (rch_na (fun y hy => ?_) hq (decide_eq_true hql) z2 z1 ((h2 x).1 hx)))
      simp only [decide_eq_true_eq] at hy ⊢
      omega
  · exact .inr (.inr fun x hx hx2 => hz ⟨x,hx2,hx⟩)
theorem Bas.na {hs out : List Int} {c : Nat} {R : List (Bool × List Nat)} (B : Bas hs out c R) : ∀ F ∈ setsP R,∀ G ∈ setsP R,NA F G := by
  intro F hF G hG
  obtain ⟨q,hq,rfl⟩ := List.mem_map.1 hF
  obtain ⟨u,hu,rfl⟩ := List.mem_map.1 hG
  obtain ⟨p,hp,hpl,h1⟩ := B.mem q hq
  obtain ⟨p2,hp2,hpl2,h2⟩ := B.mem u hu
  unfold NA
  simp only [bitsL_bit,decide_eq_true_eq,decide_eq_false_iff_not]
  rcases two_basins hp hpl hp2 hpl2 h1 h2 with h | h | h
  · exact .inl h
  · exact .inr (.inl h)
  · exact .inr (.inr fun x hx hx2 => h x hx2 hx)
theorem places_loop {r c : Nat} {hs : List Int} (S : Sho r c hs) (hn : hs.length ≤ 7) (out : List Int) (O : OkO hs c out) (hS : ∀ m,clF LP n_ebb_Shore_sills [.agg (SH r c false false 1 hs)] m = some (.P,.agg (out.map (LV.int .i64)),m)) (w : List Nat) (t : Nat) : ∀ (p : Nat) (R : List (Bool × List Nat)),p + t = hs.length → Bas hs out c R → R.length ≤ p →
    ∃ R',exF LP top_TopBasins.L3 [(7,.ptr 1 0 3),(8,.int .i64 (hs.length : Int)),(9,.ptr 2 0 2),(51,.int .i64 (hs.length : Int)),(52,.int .i64 (p : Int))] (MB w r c hs R) = some (.exit 0,[(9,.ptr 2 0 2)],MB w r c hs R') ∧ Bas hs out c R' ∧ R'.length ≤ hs.length := by
  induction t with
  | zero =>
    intro p R hp B hR
    obtain rfl : p = hs.length := by omega
    refine ⟨R,?_,B,hR⟩
    rw [top_TopBasins.L3_eq]
    simp only [top_TopBasins.B3,exF_seq,exF_region,exF_cond,exF_exit,runL,wantL,stepL,evL,LEnv.at,putL,loadFine,LEnv.keep,List.map_cons,List.map_nil,nbeq,bin_lss,Nat.reduceEqDiff,decide_true,decide_false,cond_true,cond_false,eq_self,Int.lt_irrefl]
  | succ t ih =>
    intro p R hp B hR
    have hpn : p < hs.length := by omega
    have wk := wrap_succ (show p + 1 < 9223372036854775808 by omega)
    obtain ⟨hb1,hb2⟩ := basin_c S (by omega) false false 1 out O hS p hpn
    have g1 : ∀ R,(MB w r c hs R)[1]? = some ⟨SH r c false false 1 hs,true⟩ := fun _ => rfl
    have g2 : ∀ R : List (Bool × List Nat),(MB w r c hs R)[2]? = some ⟨[.int .i64 (hs.length : Int),GVc 3 1 R.length],true⟩ := fun _ => rfl
    have hpi : (p : Int) < (hs.length : Int) := by omega
    by_cases h : hs.getD p 0 < out.getD p 0
    · obtain ⟨l,ex',hB,hne,hasc,hmem⟩ := hb1 h
      have hlt : ∀ x ∈ l,x < hs.length := fun x hx => ((hmem x).1 hx).lt hpn
      have hnd := asc_nodup hasc
      have hll : l.length ≤ hs.length := nodup_le hnd hlt
      have hpos : 0 < l.length := List.length_pos_iff.2 hne
      have hris := fun m => rising_c hs.length l hlt hasc (by omega) false ex' 1 m
      have B' : Bas hs out c (R ++ [(ex',l)]) := by
        refine ⟨fun q hq => ?_,fun q hq => ?_,fun q hq => ?_⟩ <;> rcases List.mem_append.1 hq with hq | hq
        · exact B.ne q hq
        · rw [List.mem_singleton.1 hq]; exact hne
        · exact B.asc q hq
        · rw [List.mem_singleton.1 hq]; exact hasc
        · exact B.mem q hq
        · rw [List.mem_singleton.1 hq]; exact ⟨p,hpn,h,hmem⟩
      obtain ⟨R',k1,k2,k3⟩ := ih (p + 1) (R ++ [(ex',l)]) (by omega) B' (by simp; omega)
      refine ⟨R',?_,k2,k3⟩
      have h2 := in2_loop w r c hs R l (by omega) (fun q hq => by
        have hqn := asc_nodup (B.asc q hq)
        have := nodup_le hqn (B.lt q hq)
        obtain ⟨p2,hp2,hpl2,hm2⟩ := B.mem q hq
        exact ⟨by omega,common_ok hnd hqn (two_basins hpn h hp2 hpl2 hmem hm2)⟩) (by omega) false ex' 1 (.ptr 1 0 3) (.int .i64 (hs.length : Int)) (.ptr 2 0 2) (.int .i64 (hs.length : Int)) (.int .i64 (p : Int)) R.length 0 (by omega)
      simp only [Int.natCast_zero] at h2
      have hE : IL false ex' 1 (ci l) = .lst false ex' 1 l.length ((ci l).map (LV.int .i64)) := by simp only [IL,ci,List.length_map]
      rw [hE] at hB hris h2
      have happ := append_c [⟨u8s w,true⟩,⟨SH r c false false 1 hs,true⟩,⟨[.int .i64 (hs.length : Int),GVc 3 1 R.length],true⟩] [] 1 24 R.length (rowsP R) [.lst false ex' 1 l.length ((ci l).map (LV.int .i64))] true (by simp) rfl rfl (by omega) (by omega) (.inr rfl)
      simp only [List.cons_append,List.nil_append,List.append_nil,List.length_cons,List.length_nil,Nat.zero_add,Nat.reduceAdd] at happ
      have happ : appendL (MB w r c hs R) 1 24 (GVc 3 1 R.length) (.lst false true 1 1 [.lst false ex' 1 l.length ((ci l).map (LV.int .i64))]) = some (GVc 3 1 (R.length + 1),⟨u8s w,true⟩ :: ⟨SH r c false false 1 hs,true⟩ :: ⟨[.int .i64 (hs.length : Int),GVc 3 1 R.length],true⟩ :: GMc (R.length + 1) (rowsP R ++ [.lst false ex' 1 l.length ((ci l).map (LV.int .i64))])) := happ
      have emn : (⟨u8s w,true⟩ :: ⟨SH r c false false 1 hs,true⟩ :: ⟨[.int .i64 (hs.length : Int),GVc 3 1 (R.length + 1)],true⟩ :: GMc (R.length + 1) (rowsP R ++ [.lst false ex' 1 l.length ((ci l).map (LV.int .i64))])) = MB w r c hs (R ++ [(ex',l)]) := by
        unfold MB rowsP
        rw [← hE]
        simp only [List.length_append,List.length_singleton,List.map_append,List.map_cons,List.map_nil]
      have s1 := gvc_scalar 3 1 (R.length + 1)
      have s2 := gvc_cells 3 1 (R.length + 1)
      have s3 : lenL (GVc 3 1 R.length) = some R.length := by
        unfold GVc; split
        · rename_i e; rw [e]; rfl
        · rfl
      have cN : ∀ (a b : Bool) (c d : Nat) (cs : List LV),(LV.lst a b c d cs).cells = some [.lst a b c d cs] := fun _ _ _ _ _ => rfl
      have hlenl : lenL (.lst false ex' 1 l.length ((ci l).map (LV.int .i64))) = some l.length := rfl
      rw [top_TopBasins.L3_eq]
      simp only [top_TopBasins.B3,top_TopBasins.B3.R0,top_TopBasins.B3.R1,beqF,exF_seq,exF_region,exF_block,exF_cond,exF_skip,runL,wantL,stepL,evL,evC,LEnv.at,putL,loadFine,loadL,cellsAt,Trk.putNew,Trk.up,Trk.touch,Trk.gives,Trk.calm,Trk.hit,opdsOf,Trk.fresh,LEnv.keep,List.map_cons,List.map_nil,nbeq,nble,ofAV,ofAVs,bin_add,bin_eql,bin_neq,bin_lss,List.any_cons,List.any_nil,Bool.or_false,Bool.false_or,Bool.true_or,Bool.and_true,Bool.not_true,Bool.not_false,Nat.reduceEqDiff,decide_true,decide_false,cond_true,cond_false,List.filter_nil,Nat.reduceAdd,Nat.reduceLeDiff,reduceCtorEq,List.length_nil,List.length_cons,Nat.mul_one,eq_self,List.append_nil,List.nil_append,List.cons_append,not_true_eq_false,ne_eq,unL,views_pures,LV.pures,LV.pure,freeze,Nat.reduceDiv,List.getElem?_cons_zero,List.getElem?_cons_succ,storeL,spliceL,List.take_zero,List.take_succ_cons,List.drop_zero,List.drop_succ_cons,List.drop_nil,List.take_nil,Nat.le_refl,List.set_cons_zero,List.set_cons_succ,List.all_cons,List.all_nil,fillL,cN,hlenl,s3,hpi,g1,g2,hB,hris,show ¬ ((l.length : Nat) : Int) = 0 by omega,h2,happ,s1,s2,emn,wk,k1]
    · have hB := hb2 h
      have hris := fun m => rising_c hs.length [] (by simp) (by simp) (by simp) true true 0 m
      have hris : ∀ m,clF LP n_top_risingBelow [.lst true true 0 0 [],.int .i64 (hs.length : Int)] m = some (.P,.bool true,m) := hris
      obtain ⟨R',k1,k2,k3⟩ := ih (p + 1) R (by omega) B (by omega)
      refine ⟨R',?_,k2,k3⟩
      rw [top_TopBasins.L3_eq]
      simp only [top_TopBasins.B3,top_TopBasins.B3.R0,top_TopBasins.B3.R1,beqF,exF_seq,exF_region,exF_block,exF_cond,exF_exit,exF_skip,runL,wantL,stepL,evL,evC,LEnv.at,putL,loadFine,loadL,cellsAt,Trk.calm,Trk.hit,LEnv.keep,List.map_cons,List.map_nil,nbeq,nble,ofAVs,lenL,bin_add,bin_eql,bin_neq,bin_lss,List.any_nil,Bool.or_false,Bool.false_or,Bool.true_or,Bool.and_true,Bool.not_true,Bool.not_false,Nat.reduceEqDiff,decide_true,decide_false,cond_true,cond_false,Nat.reduceAdd,Nat.reduceLeDiff,List.length_nil,List.length_cons,eq_self,List.append_nil,List.nil_append,not_true_eq_false,ne_eq,unL,Int.natCast_zero,List.getElem?_cons_zero,List.getElem?_cons_succ,List.take_succ_cons,List.drop_zero,List.take_nil,Nat.le_refl,hpi,g1,hB,hris,wk,k1]
theorem call_in {C : LProg} {f : Nat} {lf : LFunc} (hC : C f = some lf) (hm : lf.mode = .P) {args vs : List LV} {ids : List Nat} {m : LMem} (hv : views m args = some (vs,ids)) (hp : LV.pures vs = true) {v : LV} (hc : clF C f vs [] = some (.P,v,[])) : ∃ m' : LMem,clF C f args m = some (.P,v,m') ∧ ∀ (i : Nat) (b : LBlk),m[i]? = some b → ∃ o : Bool,m'[i]? = some ⟨b.cells,o⟩ := by
  rw [clF_eq,hC] at hc ⊢
  simp only [callMode,hm,views_pures [] vs hp,hv] at hc ⊢
  split at hc
  · rename_i v1 m1 hr
    split at hc
    · rename_i v2 ids1 hv2
      simp only [Option.some.injEq,Prod.mk.injEq] at hc
      obtain ⟨_,rfl,_⟩ := hc
      refine ⟨_,rfl,fun i b hb => ?_⟩
      cases (ids.isEmpty || (v2.plain || newIds v1 m1 ids1))
      · refine ⟨if i ∈ ids then false else b.own,?_⟩
        show (freeze ids m)[i]? = _
        rw [Go.Am.freeze_get]
        by_cases h : i ∈ ids
        · rw [if_pos h,if_pos h,hb]; rfl
        · rw [if_neg h,if_neg h,hb]
      · exact ⟨b.own,hb⟩
    · cases hc
  · cases hc
structure FinM (n : Nat) (R : List (Bool × List Nat)) (m : LMem) : Prop where
  fin : ∃ o : Bool,m[2]? = some ⟨[.int .i64 (n : Int),GVc 3 1 R.length],o⟩
  rows : R.length ≠ 0 → ∃ o : Bool,m[3]? = some ⟨rowsP R,o⟩
theorem fin_call {n : Nat} {R : List (Bool × List Nat)} {m : LMem} (h : FinM n R m) {f : Nat} {lf : LFunc} (hC : LP f = some lf) (hm : lf.mode = .P) {v : LV} (hc : ∀ nl ex sz m,clF LP f [.agg [.int .i64 (n : Int),RFP nl ex sz R]] m = some (.P,v,m)) : ∃ m' : LMem,clF LP f [.agg [.int .i64 (n : Int),GVc 3 1 R.length]] m = some (.P,v,m') ∧ FinM n R m' := by
  have key : ∃ m' : LMem,clF LP f [.agg [.int .i64 (n : Int),GVc 3 1 R.length]] m = some (.P,v,m') ∧ ∀ (i : Nat) (b : LBlk),m[i]? = some b → ∃ o : Bool,m'[i]? = some ⟨b.cells,o⟩ := by
    by_cases hk : R.length = 0
    · have hnil : R = [] := List.length_eq_zero_iff.1 hk
      subst hnil
      exact ⟨m,hc true true 0 m,fun i b hb => ⟨b.own,hb⟩⟩
    · obtain ⟨o,hr⟩ := h.rows hk
      have eg : GVc 3 1 R.length = .sl 3 0 R.length R.length 1 1 R.length := by unfold GVc; rw [if_neg hk,Nat.mul_one]
      have e1 : ∀ j,view (j + 3) m (.sl 3 0 R.length R.length 1 1 R.length) = some (RFP false false 1 R,[3]) := fun j => by
        have := view_slc j m 3 0 R.length R.length 1 R.length 1 (rowsP R) o hr (by rw [List.drop_zero,List.take_of_length_le (by simp)]; exact pures_rowsP R) (by simp) (by omega) (Nat.le_refl _)
        rw [this,List.drop_zero,List.take_of_length_le (by simp)]
        simp [nbeq]
      have e2 := views_snd 89 m (.int .i64 (n : Int)) (.sl 3 0 R.length R.length 1 1 R.length) _ [3] e1 rfl (by simp [LV.pures,LV.pure])
      have e3 : view 98 m (.agg [.int .i64 (n : Int),.sl 3 0 R.length R.length 1 1 R.length]) = some (.agg [.int .i64 (n : Int),RFP false false 1 R],[3]) := by
        rw [view.eq_def]; simp only [e2]
      have hv : views m [.agg [.int .i64 (n : Int),.sl 3 0 R.length R.length 1 1 R.length]] = some ([.agg [.int .i64 (n : Int),RFP false false 1 R]],[3]) := by
        unfold views
        rw [viewL.eq_def]
        simp only [show LV.pures [LV.agg [.int .i64 (n : Int),.sl 3 0 R.length R.length 1 1 R.length]] = false by simp [LV.pures,LV.pure],cond_false]
        rw [viewC.eq_def]
        simp only [e3]
        rw [viewC.eq_def]
        simp
      rw [eg]
      exact call_in hC hm hv (by simp only [LV.pures,LV.pure,Bool.and_self]) (hc false false 1 [])
  obtain ⟨m',k1,k2⟩ := key
  refine ⟨m',k1,?_,fun hk => ?_⟩
  · obtain ⟨o,hf⟩ := h.fin
    exact k2 2 _ hf
  · obtain ⟨o,hr⟩ := h.rows hk
    exact k2 3 _ hr
theorem basins_c (a b : Nat) (ha : a < 256) (hb : b < 256) (w : List Nat) (hw : w.length = 7) (hwb : ∀ x ∈ w,x < 256) : clF LP n_top_TopBasins [.int .u8 (a : Int),.int .u8 (b : Int),.agg (u8s w)] [] = some (.P,.bool true,[]) := by
  obtain ⟨r,c,hs,S,hn,hsh⟩ := shored_c a b ha hb w hw hwb
  obtain ⟨out,O,hS⟩ := sills_c S false false 1
  have hcl := S.cle
  have hcb := S.cb
  have hSl := fun m => Sills_c S false false 1 out O hS m
  have hol := O.len
  have htl : (out.take hs.length).length = hs.length := by simp [hol]; omega
  obtain ⟨R,h1,B,hR⟩ := places_loop S hn out O hS w hs.length 0 [] (by omega) ⟨by simp,by simp,by simp⟩ (by simp)
  have hM0 : MB w r c hs [] = [⟨u8s w,true⟩,⟨SH r c false false 1 hs,true⟩,⟨[.int .i64 (hs.length : Int),.lst true true 0 0 []],true⟩] := rfl
  rw [hM0] at h1
  have F : Fms hs.length (R.map (·.2)) := by
    refine ⟨by omega,by simp; omega,fun l hl => ?_,fun l hl => ?_,fun l hl => ?_⟩ <;> obtain ⟨q,hq,rfl⟩ := List.mem_map.1 hl
    · exact B.ne q hq
    · exact B.lt q hq
    · exact B.asc q hq
  have hen : 0 < en (mayB (setsP R)) hs.length 0 := en_pos _ _ (fun G hG => by
    obtain ⟨q,hq,rfl⟩ := List.mem_map.1 hG
    exact bitsL_lt q.2 _ (B.lt q hq)) B.na
  have hF0 : FinM hs.length R (MB w r c hs R) := ⟨⟨true,rfl⟩,fun hk => ⟨true,by unfold MB GMc; rw [if_neg hk]; rfl⟩⟩
  obtain ⟨m1,c1,F1⟩ := fin_call hF0 lp_style_Count rfl (CountP_c hs.length R F)
  obtain ⟨m2,c2,F2⟩ := fin_call F1 lp_style_Fewest rfl (Fewest_c hs.length R F (by omega) hen)
  obtain ⟨m3,c3,F3⟩ := fin_call F2 lp_style_Why rfl (WhyP_c hs.length R F hen)
  obtain ⟨o0,g0⟩ := hF0.fin
  obtain ⟨o1,g1⟩ := F1.fin
  obtain ⟨o2,g2⟩ := F2.fin
  have hwk := fun m => works_c m
  have hwl : (u8s w).length = 7 := by simp [hw]
  have htk7 : (u8s w).take 7 = u8s w := List.take_of_length_le (by omega)
  simp only [Int.natCast_zero] at h1
  refine call_P lp_top_TopBasins rfl (by simp only [LV.pures,LV.pure,pures_u8s,Bool.and_self]) (m1 := m3) ?_ rfl []
  generalize MB w r c hs R = M at *
  generalize GVc 3 1 R.length = V at *
  simp only [top_TopBasins,top_TopBasins.B,top_TopBasins.B.R0,top_TopBasins.B.R1,top_TopBasins.B.R2,beqT,beqF,exF_seq,exF_region,exF_block,exF_cond,exF_ret,exF_skip,runL,wantL,stepL,evL,evC,LEnv.at,putL,loadFine,loadL,cellsAt,Trk.putNew,Trk.up,Trk.touch,Trk.gives,Trk.calm,Trk.hit,opdsOf,Trk.fresh,LEnv.keep,LEnv.ofFrom,List.map_cons,List.map_nil,nbeq,nble,ofAV,ofAVs,bin_eql,bin_neq,bin_gtr,List.any_cons,List.any_nil,Bool.or_false,Bool.false_or,Bool.true_or,Bool.or_true,Bool.and_true,Bool.false_and,Bool.not_true,Bool.not_false,Nat.reduceEqDiff,decide_true,decide_false,cond_true,cond_false,List.filter_nil,Nat.reduceAdd,Nat.reduceLeDiff,reduceCtorEq,List.length_nil,List.length_cons,eq_self,retL,resultsL,resAllL,resOfL,List.append_nil,List.nil_append,List.cons_append,not_true_eq_false,ne_eq,Int.natCast_zero,allocL,List.getElem?_cons_zero,List.getElem?_cons_succ,storeL,spliceL,List.take_zero,List.take_succ_cons,List.drop_zero,List.drop_succ_cons,List.drop_nil,List.take_nil,Nat.le_refl,List.set_cons_zero,List.set_cons_succ,List.all_cons,List.all_nil,fillL,lenL,cellsI,cellsA,scalarI,scalarN,hwl,htk7,hsh,hSl,htl,h1,g0,g1,g2,c1,c2,c3,hwk,show ((en (mayB (setsP R)) hs.length 0 : Nat) : Int) > 0 by omega]
theorem basins_in (a : Int) (ha : 0 ≤ a ∧ a < 256) (b : Int) (hb : 0 ≤ b ∧ b < 256) (ns : List Int) (hl : ns.length = 7) (hns : ∀ n ∈ ns,0 ≤ n ∧ n < 256) :
    clF LP n_top_TopBasins [.int .u8 a,.int .u8 b,.agg (ns.map (LV.int .u8))] [] = some (.P,.bool true,[]) := by
  obtain ⟨x,rfl⟩ := Int.eq_ofNat_of_zero_le ha.1
  obtain ⟨y,rfl⟩ := Int.eq_ofNat_of_zero_le hb.1
  obtain ⟨w,rfl,hw⟩ := nat_list ns hns
  have e : (ci w).map (LV.int .u8) = u8s w := by simp [ci,u8s]
  rw [e]
  exact basins_c x y (by omega) (by omega) w (by simpa using hl) hw
end Go.Am.Top
