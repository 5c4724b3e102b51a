/-
  What functions of chapter 04 compute, outright 3: whether finds make no ring, whether a list is a ring, lists compared.
-/
import Derived.Test.YtheppipmnfjdcaaDoorRdP10
import Derived.Test.YtheppipmnfjdcaaDoorRdD1
set_option linter.unusedVariables false
set_option linter.unusedSimpArgs false
set_option maxRecDepth 10000
namespace Go.Am.Ring
open Go.Am.G
theorem contains_m (m : LMem) (b : Nat) (l : List Int) (x : Int) (hl : l.length < 1000000) (h : l ≠ [] → m[b]? = some ⟨ints l,true⟩) : clF LP n_slices_Contains_int_int [GV b l,.int .i64 x] m = some (.P,.bool (decide (x ∈ l)),m) :=
  call_view lp_slices_Contains_int_int rfl (views_gv m b l (.int .i64 x) rfl true h) (by simp [LV.pures,LV.pure]) (contains_c _ _ _ l x hl []) rfl
theorem closes_loop {n0 : Nat} {P : List (Nat × Nat)} (G : Good n0 P) (nl ex nl' ex' : Bool) (sz : Nat) (R : List Nat) (hR : ∀ k ∈ R,k < P.length) (hRl : R.length < 1000) (j : Nat) : ∀ (k : Nat) (M : LMem) (b : Nat),k + j = R.length → (ci ((R.take k).map (st P)) ≠ [] → M[b]? = some ⟨ints (ci ((R.take k).map (st P))),true⟩) →
    ∃ M',exF LP law04_closes.L0 [(0,FN nl ex sz P),(1,IL nl' ex' 1 (ci R)),(5,GV b (ci ((R.take k).map (st P)))),(19,IL nl' ex' 1 (ci R)),(20,.int .i64 (R.length : Int)),(21,.int .i64 (k : Int))] M = if cyF P R j k = true then some (.exit 0,[],M') else some (.ret,[(4,.bool false)],M') := by
  have h12 := G.le12
  have hcl := ci_len R
  induction j with
  | zero =>
    intro k M b hk _
    refine ⟨M,?_⟩
    rw [law04_closes.L0_eq,cyF,if_pos rfl]
    simp only [IL,hcl]
    generalize (ci R).map (LV.int .i64) = row at *
    simp only [law04_closes.B0,exF_seq,exF_region,exF_cond,exF_exit,runL,wantL,stepL,evL,LEnv.at,putL,loadFine,LEnv.keep,List.map_cons,List.map_nil,nbeq,bin_lss,Nat.reduceEqDiff,decide_true,decide_false,cond_true,cond_false,reduceCtorEq,eq_self,show ¬ ((k : Int) < (R.length : Int)) by omega]
  | succ j ih =>
    intro k M b hk hb
    have h2 : k < R.length := by omega
    have hkk : (k : Int) < (R.length : Int) := by omega
    have hw := wrap_succ (show k + 1 < 9223372036854775808 by omega)
    have hgk : R.getD k 0 = R[k] := getD_at R k 0 h2
    have hRk := hR _ (List.getElem_mem h2)
    have hmod : (k + 1) % R.length < R.length := Nat.mod_lt _ (by omega)
    have hgm : R.getD ((k + 1) % R.length) 0 = R[(k + 1) % R.length] := getD_at R _ 0 hmod
    have hRm := hR _ (List.getElem_mem hmod)
    have hat : (ci R).map (LV.int .i64) = R.map fun y : Nat => LV.int .i64 (y : Int) := by simp
    have b0 := nat_at .i64 R k h2
    have bm := nat_at .i64 R _ hmod
    rw [← hat] at b0 bm
    have sS := pcS P _ hRk
    have sE := pcE P _ hRk
    have sm := pcS P _ hRm
    have hrem : binL .rem (.int .i64 ((k + 1 : Nat) : Int)) (.int .i64 (R.length : Int)) = some (.int .i64 (((k + 1) % R.length : Nat) : Int)) := by
      rw [bin_rem (k := .i64) (a := ((k + 1 : Nat) : Int)) (b := (R.length : Int)) (show (R.length : Int) ≠ 0 by omega),tmod_nat]
    have hml : (ci ((R.take k).map (st P))).length < 1000000 := by rw [ci_len,List.length_map,List.length_take]; omega
    have hcon := contains_m M b (ci ((R.take k).map (st P))) ((st P R[k] : Nat) : Int) hml hb
    have hmem : (((st P R[k] : Nat) : Int) ∈ ci ((R.take k).map (st P))) ↔ (metB P (R.take k)).testBit (st P R[k]) = true := by
      rw [ci_mem,List.mem_map]
      constructor
      · rintro ⟨q,hq,e⟩
        cases c : (metB P (R.take k)).testBit (st P R[k])
        · exact absurd e ((metB_mem P (R.take k) _).1 c q hq)
        · rfl
      · intro h
        rcases Classical.em (∃ q ∈ R.take k,st P q = st P R[k]) with h' | h'
        · exact h'
        · exfalso
          have := (metB_mem P (R.take k) (st P R[k])).2 fun q hq e => h' ⟨q,hq,e⟩
          rw [this] at h; cases h
    have hap := app_gv M b (ci ((R.take k).map (st P))) ((st P R[k] : Nat) : Int) true hml hb
    have hsn : ci ((R.take (k + 1)).map (st P)) = ci ((R.take k).map (st P)) ++ [((st P R[k] : Nat) : Int)] := by
      rw [take_snoc R k h2,List.map_append]
      show (_ ++ _ : List Nat).map _ = _
      rw [List.map_append]; rfl
    rw [← hsn] at hap
    obtain ⟨M',ih⟩ := ih (k + 1) (if ci ((R.take k).map (st P)) = [] then M ++ [⟨ints (ci ((R.take (k + 1)).map (st P))),true⟩] else M.set b ⟨ints (ci ((R.take (k + 1)).map (st P))),true⟩) (if ci ((R.take k).map (st P)) = [] then M.length else b) (by omega) (fun _ => by
      by_cases c : ci ((R.take k).map (st P)) = []
      · rw [if_pos c,if_pos c]; exact get_last _ _
      · rw [if_neg c,if_neg c,List.getElem?_set_self (get_lt (hb c))])
    rw [cyF,hgk,hgm]
    generalize (if ci ((R.take k).map (st P)) = [] then M ++ [(⟨ints (ci ((R.take (k + 1)).map (st P))),true⟩ : LBlk)] else M.set b ⟨ints (ci ((R.take (k + 1)).map (st P))),true⟩) = M2 at *
    generalize GV (if ci ((R.take k).map (st P)) = [] then M.length else b) (ci ((R.take (k + 1)).map (st P))) = v2 at *
    generalize GV b (ci ((R.take k).map (st P))) = v1 at *
    simp only [FN_eq] at ih ⊢
    simp only [IL,hcl] at ih ⊢
    generalize (ci R).map (LV.int .i64) = row at *
    by_cases c : (metB P (R.take k)).testBit (st P R[k]) = true
    · refine ⟨M,?_⟩
      rw [decide_eq_true (hmem.2 c)] at hcon
      rw [if_pos (Or.inl c),if_neg (by simp),law04_closes.L0_eq]
      simp only [law04_closes.B0,law04_closes.B0.R0,law04_closes.B0.R1,beqF,exF_seq,exF_region,exF_block,exF_cond,exF_ret,exF_skip,runL,wantL,stepL,evL,evC,LEnv.at,putL,loadFine,loadL,cellsAt,Trk.putNew,Trk.up,Trk.touch,Trk.gives,Trk.calm,opdsOf,Trk.fresh,LEnv.keep,List.map_cons,List.map_nil,nbeq,nble,nblt,ofAVs,bin_lss,natL_nat,natL_zero,List.any_cons,List.any_nil,Bool.or_false,Bool.or_true,Bool.and_true,Bool.false_and,Bool.not_true,Bool.not_false,Nat.reduceEqDiff,decide_true,decide_false,cond_true,cond_false,List.filter_nil,Nat.reduceAdd,Nat.reduceLeDiff,reduceCtorEq,Nat.mul_one,eq_self,List.append_nil,List.nil_append,Nat.le_refl,Nat.reduceLT,Nat.add_zero,hkk,h2,b0,hRk,sS,hcon]
    · rw [decide_eq_false (fun h => c (hmem.1 h))] at hcon
      by_cases c2 : en P R[k] = st P R[(k + 1) % R.length]
      · have c2' : ((en P R[k] : Nat) : Int) = ((st P R[(k + 1) % R.length] : Nat) : Int) := by omega
        refine ⟨M',?_⟩
        rw [if_neg (show ¬ ((metB P (R.take k)).testBit (st P R[k]) = true ∨ en P R[k] ≠ st P R[(k + 1) % R.length]) from fun h => h.elim c (fun h => h c2)),← ih,law04_closes.L0_eq]
        simp only [law04_closes.B0,law04_closes.B0.R0,law04_closes.B0.R1,beqF,exF_seq,exF_region,exF_block,exF_cond,exF_skip,runL,wantL,stepL,evL,evC,LEnv.at,putL,loadFine,loadL,cellsAt,Trk.putNew,Trk.up,Trk.touch,Trk.gives,Trk.calm,opdsOf,Trk.fresh,LEnv.keep,List.map_cons,List.map_nil,nbeq,nble,nblt,ofAV,ofAVs,lenL,bin_add,bin_neq,bin_lss,natL_nat,natL_zero,natL_one,List.any_cons,List.any_nil,Bool.or_false,Bool.or_true,Bool.and_true,Bool.false_and,Bool.not_true,Bool.not_false,Nat.reduceEqDiff,decide_true,decide_false,cond_true,cond_false,List.filter_nil,List.filter_cons,Nat.reduceAdd,Nat.reduceLeDiff,reduceCtorEq,List.length_nil,List.length_cons,Nat.mul_one,if_true,eq_self,List.append_nil,List.nil_append,not_true_eq_false,ne_eq,views_pures,LV.pures,LV.pure,freeze,Nat.reduceDiv,LV.cells,spliceL,List.take_zero,List.take_succ_cons,List.drop_succ_cons,List.drop_nil,List.take_nil,Nat.le_refl,Nat.lt_add_one,Nat.reduceLT,fillL,Nat.add_zero,hkk,h2,b0,hRk,sS,sE,hcon,hw,hrem,hmod,bm,hRm,sm,c2',hap]
      · have c2' : ¬ ((en P R[k] : Nat) : Int) = ((st P R[(k + 1) % R.length] : Nat) : Int) := by omega
        refine ⟨M,?_⟩
        rw [if_pos (Or.inr c2),if_neg (by simp),law04_closes.L0_eq]
        simp only [law04_closes.B0,law04_closes.B0.R0,law04_closes.B0.R1,beqF,exF_seq,exF_region,exF_block,exF_cond,exF_ret,exF_skip,runL,wantL,stepL,evL,evC,LEnv.at,putL,loadFine,loadL,cellsAt,Trk.putNew,Trk.up,Trk.touch,Trk.gives,Trk.calm,opdsOf,Trk.fresh,LEnv.keep,List.map_cons,List.map_nil,nbeq,nble,nblt,ofAVs,lenL,bin_add,bin_neq,bin_lss,natL_nat,natL_zero,natL_one,List.any_cons,List.any_nil,Bool.or_false,Bool.or_true,Bool.and_true,Bool.false_and,Bool.not_true,Bool.not_false,Nat.reduceEqDiff,decide_true,decide_false,cond_true,cond_false,List.filter_nil,List.filter_cons,Nat.reduceAdd,Nat.reduceLeDiff,reduceCtorEq,Nat.mul_one,if_true,eq_self,List.append_nil,List.nil_append,not_false_eq_true,ne_eq,Nat.le_refl,Nat.lt_add_one,Nat.reduceLT,Nat.add_zero,hkk,h2,b0,hRk,sS,sE,hcon,hw,hrem,hmod,bm,hRm,sm,c2']
theorem closes_c {n : Nat} {P : List (Nat × Nat)} (G : Good n P) (nl ex nl' ex' : Bool) (sz : Nat) (R : List Nat) (hR : ∀ k ∈ R,k < P.length) (hRl : R.length < 1000) (m : LMem) : clF LP n_law04_closes [FN nl ex sz P,IL nl' ex' 1 (ci R)] m = some (.P,.bool (decide (R ∈ allR P)),m) := by
  rw [← closes_iff G hR]
  have hpu : LV.pures [FN nl ex sz P,IL nl' ex' 1 (ci R)] = true := by simp [LV.pures,LV.pure]
  have hcl := ci_len R
  unfold clF'
  by_cases h2 : 2 ≤ R.length
  · obtain ⟨a,t,rfl⟩ := List.exists_cons_of_ne_nil (show R ≠ [] from fun e => by rw [e] at h2; simp at h2)
    have hm := fun m => min_c nl' ex' 1 (a : Int) (ci t) (by rw [← ci_len (a :: t)] at hRl; simp at hRl ⊢; omega) m
    have hat0 : ((ci (a :: t)).map (LV.int .i64))[0]? = some (.int .i64 (a : Int)) := rfl
    have hmin := minF_eq (ci t) (a : Int)
    have hpos : 0 < (a :: t).length := by simp
    have hlt2 : ¬ (((a :: t).length : Nat) : Int) < 2 := by omega
    have hm : ∀ m,clF LP n_slices_Min_int_int [.lst nl' ex' 1 (a :: t).length ((ci (a :: t)).map (LV.int .i64))] m = some (.P,.int .i64 ((ci t).foldl minF (a : Int)),m) := fun m => by
      rw [← hcl]; exact hm m
    by_cases c : ∀ x ∈ t,a ≤ x
    · have cm : (ci t).foldl minF (a : Int) = (a : Int) := hmin.2 fun x hx => by
        obtain ⟨k,hk,rfl⟩ := List.mem_map.1 hx
        have := c k hk; omega
      obtain ⟨M',h1⟩ := closes_loop G nl ex nl' ex' sz (a :: t) hR hRl (a :: t).length 0 [] 0 (by omega) (fun h => absurd rfl h)
      have hgv : GV 0 (ci (((a :: t).take 0).map (st P))) = .lst true true 0 0 [] := rfl
      rw [hgv] at h1
      rw [cm] at hm
      simp only [Int.natCast_zero] at h1
      refine call_P lp_law04_closes rfl hpu (m1 := M') ?_ rfl m
      by_cases c2 : cyF P (a :: t) (a :: t).length 0 = true
      · rw [if_pos c2] at h1
        rw [decide_eq_true ⟨h2,c,c2⟩]
        simp only [IL,hcl] at h1 ⊢
        generalize (ci (a :: t)).map (LV.int .i64) = row at *
        generalize (a :: t).length = L at *
        simp only [FN_eq] at h1 ⊢
        simp only [law04_closes,law04_closes.B,law04_closes.B.R0,beqF,exF_seq,exF_region,exF_block,exF_cond,exF_ret,exF_skip,runL,wantL,stepL,evL,evC,LEnv.at,putL,loadFine,loadL,cellsAt,Trk.putNew,Trk.up,Trk.touch,Trk.gives,Trk.calm,opdsOf,Trk.fresh,LEnv.keep,LEnv.ofFrom,List.map_cons,List.map_nil,nbeq,nble,nblt,ofAVs,lenL,bin_neq,bin_lss,natL_zero,List.any_cons,List.any_nil,Bool.or_false,Bool.or_true,Bool.and_true,Bool.false_and,Bool.not_true,Bool.not_false,Nat.reduceEqDiff,decide_true,decide_false,cond_true,cond_false,List.filter_nil,List.filter_cons,Nat.reduceAdd,reduceCtorEq,List.length_nil,Nat.mul_one,if_true,eq_self,retL,resultsL,resAllL,resOfL,List.append_nil,List.nil_append,not_true_eq_false,ne_eq,List.drop_zero,Nat.le_refl,hlt2,hm,hpos,hat0,h1]
      · rw [if_neg c2] at h1
        rw [decide_eq_false (fun h => c2 h.2.2)]
        simp only [IL,hcl] at h1 ⊢
        generalize (ci (a :: t)).map (LV.int .i64) = row at *
        generalize (a :: t).length = L at *
        simp only [FN_eq] at h1 ⊢
        simp only [law04_closes,law04_closes.B,law04_closes.B.R0,beqF,exF_seq,exF_region,exF_block,exF_cond,exF_skip,runL,wantL,stepL,evL,evC,LEnv.at,putL,loadFine,loadL,cellsAt,Trk.putNew,Trk.up,Trk.touch,Trk.gives,Trk.calm,opdsOf,Trk.fresh,LEnv.keep,LEnv.ofFrom,List.map_cons,List.map_nil,nbeq,nble,nblt,ofAVs,lenL,bin_neq,bin_lss,natL_zero,List.any_cons,List.any_nil,Bool.or_false,Bool.or_true,Bool.and_true,Bool.false_and,Bool.not_true,Bool.not_false,Nat.reduceEqDiff,decide_true,decide_false,cond_true,cond_false,List.filter_nil,List.filter_cons,Nat.reduceAdd,reduceCtorEq,List.length_nil,Nat.mul_one,if_true,eq_self,retL,resultsL,resAllL,resOfL,List.append_nil,List.nil_append,not_true_eq_false,ne_eq,List.drop_zero,Nat.le_refl,hlt2,hm,hpos,hat0,h1]
    · have cm : ¬ (ci t).foldl minF (a : Int) = (a : Int) := fun e => c fun k hk => by
        have := hmin.1 e (k : Int) (List.mem_map.2 ⟨k,hk,rfl⟩); omega
      rw [decide_eq_false (fun h => c h.2.1)]
      refine call_P lp_law04_closes rfl hpu (m1 := []) ?_ rfl m
      simp only [IL,hcl]
      generalize (ci (a :: t)).map (LV.int .i64) = row at *
      generalize (a :: t).length = L at *
      simp only [FN_eq]
      simp only [law04_closes,law04_closes.B,law04_closes.B.R0,beqF,exF_seq,exF_region,exF_cond,exF_ret,runL,wantL,stepL,evL,evC,LEnv.at,putL,loadFine,loadL,cellsAt,Trk.putNew,Trk.up,Trk.touch,Trk.gives,Trk.calm,opdsOf,Trk.fresh,LEnv.keep,LEnv.ofFrom,List.map_cons,List.map_nil,nbeq,nble,nblt,ofAVs,lenL,bin_neq,bin_lss,natL_zero,List.any_cons,List.any_nil,Bool.or_false,Bool.or_true,Bool.and_true,Bool.false_and,Bool.not_true,Bool.not_false,Nat.reduceEqDiff,decide_true,decide_false,cond_true,cond_false,List.filter_nil,List.filter_cons,Nat.reduceAdd,reduceCtorEq,List.length_nil,Nat.mul_one,if_true,eq_self,retL,resultsL,resAllL,resOfL,List.append_nil,List.nil_append,not_false_eq_true,ne_eq,List.drop_zero,Nat.le_refl,hlt2,hm,hpos,hat0,cm]
  · have h2' : ((R.length : Nat) : Int) < 2 := by omega
    rw [decide_eq_false (fun h => h2 h.1)]
    refine call_P lp_law04_closes rfl hpu (m1 := []) ?_ rfl m
    simp only [IL,hcl]
    generalize (ci R).map (LV.int .i64) = row at *
    simp only [FN_eq]
    simp only [law04_closes,law04_closes.B,law04_closes.B.R0,beqF,exF_seq,exF_region,exF_cond,exF_ret,runL,wantL,stepL,evL,evC,LEnv.at,putL,loadFine,LEnv.keep,LEnv.ofFrom,List.map_cons,List.map_nil,nbeq,lenL,bin_lss,Bool.not_true,Nat.reduceEqDiff,decide_true,decide_false,cond_true,cond_false,Nat.reduceAdd,reduceCtorEq,eq_self,retL,resultsL,resAllL,resOfL,h2']
theorem nan_c (x : Int) (m : LMem) : clF LP n_cmp_isNaN_int [.int .i64 x] m = some (.P,.bool false,m) := by
  refine call_P lp_cmp_isNaN_int rfl rfl (m1 := []) ?_ rfl m
  simp only [cmp_isNaN_int,cmp_isNaN_int.B,exF_seq,exF_region,exF_ret,runL,wantL,stepL,evL,evC,LEnv.at,putL,loadFine,LEnv.keep,LEnv.ofFrom,List.map_cons,List.map_nil,nbeq,bin_neq,Nat.reduceEqDiff,decide_true,decide_false,cond_true,cond_false,reduceCtorEq,eq_self,retL,resultsL,resAllL,resOfL,not_true_eq_false,ne_eq]
theorem cmpI_c (x y : Nat) (m : LMem) : clF LP n_cmp_Compare_int [.int .i64 (x : Int),.int .i64 (y : Int)] m = some (.P,.int .i64 (if x < y then -1 else if y < x then 1 else 0),m) := by
  refine call_P lp_cmp_Compare_int rfl rfl (m1 := []) ?_ rfl m
  by_cases h1 : x < y
  · have h1' : (x : Int) < (y : Int) := by omega
    rw [if_pos h1]
    simp only [cmp_Compare_int,cmp_Compare_int.B,exF_seq,exF_region,exF_cond,exF_ret,exF_skip,runL,wantL,stepL,evL,evC,LEnv.at,putL,loadFine,LEnv.keep,LEnv.ofFrom,List.map_cons,List.map_nil,nbeq,ofAVs,bin_lss,Nat.reduceEqDiff,decide_true,decide_false,cond_true,cond_false,Nat.reduceAdd,reduceCtorEq,eq_self,retL,resultsL,resAllL,resOfL,List.append_nil,List.nil_append,nan_c,h1']
  · have h1' : ¬ (x : Int) < (y : Int) := by omega
    rw [if_neg h1]
    by_cases h2 : y < x
    · have h2' : (y : Int) < (x : Int) := by omega
      rw [if_pos h2]
      simp only [cmp_Compare_int,cmp_Compare_int.B,exF_seq,exF_region,exF_cond,exF_ret,exF_skip,runL,wantL,stepL,evL,evC,LEnv.at,putL,loadFine,LEnv.keep,LEnv.ofFrom,List.map_cons,List.map_nil,nbeq,ofAVs,bin_lss,bin_gtr,Nat.reduceEqDiff,decide_true,decide_false,cond_true,cond_false,Nat.reduceAdd,reduceCtorEq,eq_self,retL,resultsL,resAllL,resOfL,List.append_nil,List.nil_append,nan_c,h1',h2']
    · have h2' : ¬ (y : Int) < (x : Int) := by omega
      rw [if_neg h2]
      simp only [cmp_Compare_int,cmp_Compare_int.B,exF_seq,exF_region,exF_cond,exF_ret,exF_skip,runL,wantL,stepL,evL,evC,LEnv.at,putL,loadFine,LEnv.keep,LEnv.ofFrom,List.map_cons,List.map_nil,nbeq,ofAVs,bin_lss,bin_gtr,Nat.reduceEqDiff,decide_true,decide_false,cond_true,cond_false,Nat.reduceAdd,reduceCtorEq,eq_self,retL,resultsL,resAllL,resOfL,List.append_nil,List.nil_append,nan_c,h1',h2']
def stopB : List Nat → List Nat → Bool
  | [],_ => false
  | _ :: _,[] => true
  | a :: x,b :: y => if a = b then stopB x y else true
theorem cmpL_pre : ∀ (a b : List Nat),stopB a b = false → cmpL a b = if a.length < b.length then -1 else 0
  | [],[],_ => rfl
  | [],_ :: _,_ => rfl
  | a :: x,[],h => by cases h
  | a :: x,b :: y,h => by
    rw [stopB] at h
    split at h
    · rename_i e
      subst e
      rw [cmpL,if_neg (by omega),if_neg (by omega),cmpL_pre x y h]
      simp
    · cases h
theorem comp_loop (nl ex nl' ex' : Bool) (sz sz' : Nat) (a b : List Nat) (ha : a.length < 1000) (hb : b.length < 1000) (j : Nat) : ∀ k,k + j = a.length →
    exF LP slices_Compare_int_int.L0 [(0,IL nl ex sz (ci a)),(1,IL nl' ex' sz' (ci b)),(9,IL nl ex sz (ci a)),(10,.int .i64 (a.length : Int)),(11,.int .i64 (k : Int))] [] =
      if stopB (a.drop k) (b.drop k) = true then some (.ret,[(4,.int .i64 (cmpL (a.drop k) (b.drop k)))],[]) else some (.exit 0,[(0,IL nl ex sz (ci a)),(1,IL nl' ex' sz' (ci b))],[]) := by
  have hca := ci_len a
  have hcb := ci_len b
  induction j with
  | zero =>
    intro k hk
    rw [slices_Compare_int_int.L0_eq,List.drop_eq_nil_of_le (show a.length ≤ k by omega),stopB,if_neg (by simp)]
    simp only [IL,hca,hcb]
    generalize (ci a).map (LV.int .i64) = rowa at *
    generalize (ci b).map (LV.int .i64) = rowb at *
    simp only [slices_Compare_int_int.B0,exF_seq,exF_region,exF_cond,exF_exit,runL,wantL,stepL,evL,LEnv.at,putL,loadFine,LEnv.keep,List.map_cons,List.map_nil,nbeq,bin_lss,Nat.reduceEqDiff,decide_true,decide_false,cond_true,cond_false,reduceCtorEq,eq_self,show ¬ ((k : Int) < (a.length : Int)) by omega]
  | succ j ih =>
    intro k hk
    have h2 : k < a.length := by omega
    have hkk : (k : Int) < (a.length : Int) := by omega
    have hw := wrap_succ (show k + 1 < 9223372036854775808 by omega)
    have ih := ih (k + 1) (by omega)
    have hata : (ci a).map (LV.int .i64) = a.map fun y : Nat => LV.int .i64 (y : Int) := by simp
    have hatb : (ci b).map (LV.int .i64) = b.map fun y : Nat => LV.int .i64 (y : Int) := by simp
    have b0 := nat_at .i64 a k h2
    rw [← hata] at b0
    by_cases c : b.length ≤ k
    · have c' : (b.length : Int) ≤ (k : Int) := by omega
      rw [slices_Compare_int_int.L0_eq,List.drop_eq_nil_of_le c,List.drop_eq_getElem_cons h2,cmpL,stopB,if_pos rfl]
      simp only [IL,hca,hcb]
      generalize (ci a).map (LV.int .i64) = rowa at *
      generalize (ci b).map (LV.int .i64) = rowb at *
      simp only [slices_Compare_int_int.B0,exF_seq,exF_region,exF_block,exF_cond,exF_ret,exF_skip,runL,wantL,stepL,evL,evC,LEnv.at,putL,loadFine,loadL,cellsAt,Trk.putNew,Trk.up,Trk.touch,Trk.gives,Trk.calm,opdsOf,Trk.fresh,LEnv.keep,List.map_cons,List.map_nil,nbeq,nble,nblt,lenL,bin_lss,bin_geq,natL_nat,List.any_cons,List.any_nil,Bool.or_false,Bool.or_true,Bool.and_true,Bool.false_and,Bool.not_true,Bool.not_false,Nat.reduceEqDiff,decide_true,decide_false,cond_true,cond_false,List.filter_nil,Nat.reduceAdd,Nat.reduceLeDiff,reduceCtorEq,List.length_nil,Nat.mul_one,eq_self,hkk,h2,b0,c']
    · have c' : ¬ (b.length : Int) ≤ (k : Int) := by omega
      have h3 : k < b.length := by omega
      have b1 := nat_at .i64 b k h3
      rw [← hatb] at b1
      have hcm := fun m => cmpI_c a[k] b[k] m
      rw [List.drop_eq_getElem_cons h2,List.drop_eq_getElem_cons h3,cmpL,stopB]
      by_cases d : a[k] = b[k]
      · have d1 : ¬ a[k] < b[k] := by omega
        have d2 : ¬ b[k] < a[k] := by omega
        rw [if_pos d,if_neg d1,if_neg d2]
        simp only [if_neg d1,if_neg d2] at hcm
        rw [← ih,slices_Compare_int_int.L0_eq]
        simp only [IL,hca,hcb]
        generalize (ci a).map (LV.int .i64) = rowa at *
        generalize (ci b).map (LV.int .i64) = rowb at *
        simp only [slices_Compare_int_int.B0,exF_seq,exF_region,exF_block,exF_cond,exF_skip,runL,wantL,stepL,evL,evC,LEnv.at,putL,loadFine,loadL,cellsAt,Trk.putNew,Trk.up,Trk.touch,Trk.gives,Trk.calm,opdsOf,Trk.fresh,LEnv.keep,List.map_cons,List.map_nil,nbeq,nble,nblt,ofAVs,lenL,bin_add,bin_neq,bin_lss,bin_geq,natL_nat,List.any_cons,List.any_nil,Bool.or_false,Bool.or_true,Bool.and_true,Bool.false_and,Bool.not_true,Bool.not_false,Nat.reduceEqDiff,decide_true,decide_false,cond_true,cond_false,List.filter_nil,Nat.reduceAdd,Nat.reduceLeDiff,reduceCtorEq,List.length_nil,Nat.mul_one,eq_self,List.append_nil,List.nil_append,not_true_eq_false,ne_eq,hkk,h2,h3,b0,b1,c',hcm,hw]
      · rw [if_neg d,if_pos rfl,slices_Compare_int_int.L0_eq]
        simp only [IL,hca,hcb]
        generalize (ci a).map (LV.int .i64) = rowa at *
        generalize (ci b).map (LV.int .i64) = rowb at *
        by_cases d1 : a[k] < b[k]
        · simp only [if_pos d1] at hcm ⊢
          simp only [slices_Compare_int_int.B0,exF_seq,exF_region,exF_block,exF_cond,exF_ret,exF_skip,runL,wantL,stepL,evL,evC,LEnv.at,putL,loadFine,loadL,cellsAt,Trk.putNew,Trk.up,Trk.touch,Trk.gives,Trk.calm,opdsOf,Trk.fresh,LEnv.keep,List.map_cons,List.map_nil,nbeq,nble,nblt,ofAVs,lenL,bin_neq,bin_lss,bin_geq,natL_nat,List.any_cons,List.any_nil,Bool.or_false,Bool.or_true,Bool.and_true,Bool.false_and,Bool.not_true,Bool.not_false,Nat.reduceEqDiff,decide_true,decide_false,cond_true,cond_false,List.filter_nil,Nat.reduceAdd,Nat.reduceLeDiff,reduceCtorEq,List.length_nil,Nat.mul_one,eq_self,List.append_nil,List.nil_append,not_false_eq_true,ne_eq,hkk,h2,h3,b0,b1,c',hcm]
        · have d2 : b[k] < a[k] := by omega
          simp only [if_neg d1,if_pos d2] at hcm ⊢
          simp only [slices_Compare_int_int.B0,exF_seq,exF_region,exF_block,exF_cond,exF_ret,exF_skip,runL,wantL,stepL,evL,evC,LEnv.at,putL,loadFine,loadL,cellsAt,Trk.putNew,Trk.up,Trk.touch,Trk.gives,Trk.calm,opdsOf,Trk.fresh,LEnv.keep,List.map_cons,List.map_nil,nbeq,nble,nblt,ofAVs,lenL,bin_neq,bin_lss,bin_geq,natL_nat,List.any_cons,List.any_nil,Bool.or_false,Bool.or_true,Bool.and_true,Bool.false_and,Bool.not_true,Bool.not_false,Nat.reduceEqDiff,decide_true,decide_false,cond_true,cond_false,List.filter_nil,Nat.reduceAdd,Nat.reduceLeDiff,reduceCtorEq,List.length_nil,Nat.mul_one,eq_self,List.append_nil,List.nil_append,not_false_eq_true,ne_eq,Int.reduceEq,hkk,h2,h3,b0,b1,c',hcm]
theorem compare_c (nl ex nl' ex' : Bool) (sz sz' : Nat) (a b : List Nat) (ha : a.length < 1000) (hb : b.length < 1000) (m : LMem) : clF LP n_slices_Compare_int_int [IL nl ex sz (ci a),IL nl' ex' sz' (ci b)] m = some (.P,.int .i64 (cmpL a b),m) := by
  have h := comp_loop nl ex nl' ex' sz sz' a b ha hb a.length 0 (by omega)
  have hca := ci_len a
  have hcb := ci_len b
  rw [List.drop_zero,List.drop_zero] at h
  simp only [Int.natCast_zero] at h
  refine call_P lp_slices_Compare_int_int rfl (by simp [LV.pures,LV.pure]) (m1 := []) ?_ rfl m
  simp only [IL,hca,hcb] at h ⊢
  generalize (ci a).map (LV.int .i64) = rowa at *
  generalize (ci b).map (LV.int .i64) = rowb at *
  by_cases c : stopB a b = true
  · rw [if_pos c] at h
    simp only [slices_Compare_int_int,slices_Compare_int_int.B,exF_seq,exF_region,exF_block,runL,wantL,stepL,evL,evC,LEnv.at,putL,loadFine,LEnv.keep,LEnv.ofFrom,List.map_cons,List.map_nil,nbeq,lenL,Nat.reduceEqDiff,decide_true,decide_false,cond_true,cond_false,Nat.reduceAdd,reduceCtorEq,eq_self,retL,resultsL,resAllL,resOfL,h]
  · rw [if_neg c] at h
    have hp := cmpL_pre a b (by simpa using c)
    rw [hp]
    by_cases d : a.length < b.length
    · have d' : (a.length : Int) < (b.length : Int) := by omega
      rw [if_pos d]
      simp only [slices_Compare_int_int,slices_Compare_int_int.B,exF_seq,exF_region,exF_block,exF_cond,exF_ret,runL,wantL,stepL,evL,evC,LEnv.at,putL,loadFine,LEnv.keep,LEnv.ofFrom,List.map_cons,List.map_nil,nbeq,lenL,bin_lss,Nat.reduceEqDiff,decide_true,decide_false,cond_true,cond_false,Nat.reduceAdd,reduceCtorEq,eq_self,retL,resultsL,resAllL,resOfL,h,d']
    · have d' : ¬ (a.length : Int) < (b.length : Int) := by omega
      rw [if_neg d]
      simp only [slices_Compare_int_int,slices_Compare_int_int.B,exF_seq,exF_region,exF_block,exF_cond,exF_ret,exF_skip,runL,wantL,stepL,evL,evC,LEnv.at,putL,loadFine,LEnv.keep,LEnv.ofFrom,List.map_cons,List.map_nil,nbeq,lenL,bin_lss,Nat.reduceEqDiff,decide_true,decide_false,cond_true,cond_false,Nat.reduceAdd,reduceCtorEq,eq_self,retL,resultsL,resAllL,resOfL,h,d']
end Go.Am.Ring
