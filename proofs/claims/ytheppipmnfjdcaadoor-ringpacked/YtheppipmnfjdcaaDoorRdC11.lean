import Derived.Test.YtheppipmnfjdcaaDoorRdC6
set_option linter.unusedVariables false
set_option linter.unusedSimpArgs false
set_option maxRecDepth 10000
namespace Go.Am.Ring
open Go.Am.G
def sureB (n : Nat) (P : List (Nat × Nat)) (a b : Nat) : Bool := !decide (a = b) && decide ((fwD anyM P n 0).1 < (fwD (mayAB a b) P n 0).1)
abbrev Pcs (l : List (Nat × Nat)) : List LV := pcI (l.map castP)
theorem Pcs_len (l : List (Nat × Nat)) : (Pcs l).length = l.length * 2 := by rw [pcI_len,List.length_map]
theorem Pcs_scalar (l : List (Nat × Nat)) : (Pcs l).all LV.scalar = true := by
  induction l with
  | nil => rfl
  | cons a r ih => exact ih
theorem Pcs_snoc (l : List (Nat × Nat)) (a b : Nat) : Pcs (l ++ [(a,b)]) = Pcs l ++ [.int .i64 (a : Int),.int .i64 (b : Int)] := by simp [Pcs,pcI,pc,castP]
def sureL (n : Nat) (P : List (Nat × Nat)) (a : Nat) (l : List Nat) : List (Nat × Nat) := (l.filter (sureB n P a)).map fun b => (a,b)
theorem sure_in (n : Nat) (P : List (Nat × Nat)) (G : Good n P) (nl ex : Bool) (sz : Nat) (a : Nat) (ha : a < n) (ia : Nat) (j : Nat) : ∀ (b : Nat) (M : LMem) (v : LV) (out : List (Nat × Nat)),b + j = n → out.length ≤ 100 + b → Lst M v 2 out.length (Pcs out) → (∃ w,M[ia]? = some ⟨[.int .i64 (a : Int)],w⟩) → ¬ isBlk v ia →
    ∃ v' M',exF LP ring_Sure.L0 [(0,.int .i64 (n : Int)),(1,FN nl ex sz P),(7,.int .i64 (((fwD anyM P n 0).1 : Nat) : Int)),(8,v),(9,.ptr ia 0 1),(26,.int .i64 (n : Int)),(27,.int .i64 (a : Int)),(30,.int .i64 (n : Int)),(31,.int .i64 (b : Int))] M =
      some (.exit 2,[(0,.int .i64 (n : Int)),(1,FN nl ex sz P),(7,.int .i64 (((fwD anyM P n 0).1 : Nat) : Int)),(8,v'),(26,.int .i64 (n : Int)),(27,.int .i64 (a : Int))],M') ∧
      Lst M' v' 2 (out ++ sureL n P a (List.range' b j)).length (Pcs (out ++ sureL n P a (List.range' b j))) := by
  have h6 := G.le6
  induction j with
  | zero =>
    intro b M v out hb hout hL hia hbl
    refine ⟨v,M,?_,by simpa [sureL] using hL⟩
    rw [ring_Sure.L0_eq]
    simp only [ring_Sure.B0,exF_seq,exF_region,exF_cond,exF_exit,runL,wantL,stepL,evL,LEnv.at,putL,loadFine,LEnv.keep,List.map_cons,List.map_nil,nbeq,bin_lss,Nat.reduceEqDiff,decide_true,decide_false,cond_true,cond_false,reduceCtorEq,eq_self,show ¬ ((b : Int) < (n : Int)) by omega]
  | succ j ih =>
    intro b M v out hb hout hL hia hbl
    obtain ⟨w,hia⟩ := hia
    have hbn : b < n := by omega
    have hbi : (b : Int) < (n : Int) := by omega
    have hw := wrap_succ (show b + 1 < 9223372036854775808 by omega)
    have hial : ia < M.length := by
      rcases Nat.lt_or_ge ia M.length with c | c
      · exact c
      · rw [List.getElem?_eq_none c] at hia; cases hia
    have la := last_at M ⟨[.int .i64 (b : Int)],true⟩
    have hia1 : ∀ x : LBlk,(M ++ [x])[ia]? = some ⟨[.int .i64 (a : Int)],w⟩ := fun x => by rw [List.getElem?_append_left hial,hia]
    have hLM : Lst (M ++ [⟨[.int .i64 (b : Int)],true⟩]) v 2 out.length (Pcs out) := hL.mono fun i hi => List.getElem?_append_left (hL.lt i hi)
    have hself : ¬ (M.length + 1 ≤ M.length) := by omega
    rw [List.range'_succ]
    by_cases c : a = b
    · have hs : sureL n P a (b :: List.range' (b + 1) j) = sureL n P a (List.range' (b + 1) j) := by
        unfold sureL
        rw [List.filter_cons_of_neg (by simp [sureB,c])]
      rw [hs]
      generalize hvs : ([.int .i64 (n : Int),FN nl ex sz P,.int .i64 (((fwD anyM P n 0).1 : Nat) : Int),v,.ptr ia 0 1,.int .i64 (n : Int),.int .i64 (a : Int),.int .i64 (n : Int),.int .i64 ((b + 1 : Nat) : Int)] : List LV) = vs
      have hvm : v ∈ vs := by rw [← hvs]; simp
      obtain ⟨v',M',hex,hL'⟩ := ih (b + 1) (trim M.length vs (M ++ [⟨[.int .i64 (b : Int)],true⟩])) v out (by omega) (by omega) (lst_trim hLM _ _ hvm) ⟨w,by rw [trim_get _ _ _ _ hial,hia1]⟩ hbl
      refine ⟨v',M',?_,hL'⟩
      subst hvs
      subst c
      rw [ring_Sure.L0_eq]
      simp only [ring_Sure.B0,exF_seq,exF_region,exF_block,exF_cond,exF_exit,exF_skip,runL,wantL,stepL,evL,evC,LEnv.at,putL,loadFine,loadL,cellsAt,Trk.putNew,Trk.up,Trk.touch,Trk.gives,Trk.calm,Trk.hit,LEnv.keep,List.map_cons,List.map_nil,nbeq,nble,ofAV,ofAVs,bin_add,bin_eql,bin_lss,List.any_nil,Bool.or_false,Bool.false_or,Bool.true_or,Bool.and_true,Nat.reduceEqDiff,decide_true,decide_false,cond_true,cond_false,List.filter_nil,Nat.reduceAdd,Nat.reduceLeDiff,reduceCtorEq,List.length_nil,List.length_cons,eq_self,List.append_nil,List.nil_append,LV.cells,allocL,List.getElem?_cons_zero,storeL,spliceL,List.take_zero,List.take_succ_cons,List.drop_zero,List.drop_succ_cons,List.drop_nil,List.take_nil,Nat.le_refl,LV.scalar,List.all_cons,List.all_nil,List.length_append,hbi,last_at,last_set,hia1,hw,envVals,hex]
    · have c' : ¬ (a : Int) = (b : Int) := by omega
      have hv := views_S (M ++ [⟨[.int .i64 (b : Int)],true⟩]) (n : Int) (FN nl ex sz P) (by simp [LV.pure]) n_ring_Sure_1 ia M.length (a : Int) (b : Int) w true (hia1 _) la
      obtain ⟨m2,hc,hk,hlen2,hkc⟩ := call_shown2 lp_ring_filled rfl hv (by simp [LV.pures,LV.pure]) (filledS_c n P G nl ex sz a b hbn [])
      obtain ⟨w2,hia2⟩ := hkc ia _ _ (hia1 _)
      obtain ⟨w3,hib2⟩ := hkc M.length _ _ la
      have hL2 : Lst m2 v 2 out.length (Pcs out) := hLM.mono fun i hi => hk i (by
        have h1 := hL.lt i hi
        simp only [List.mem_cons,List.not_mem_nil,or_false,not_or]
        exact ⟨fun e => hbl (e ▸ hi),by omega⟩)
      have h38 := tab_38 n P (mayAB a b) n_ring_Sure_1 [] [.elt [.int .i64 (a : Int)] 0,.elt [.int .i64 (b : Int)] 0]
      have hat := tF_at (mayAB a b) P n 0 (Nat.two_pow_pos n)
      have hpos := Nat.two_pow_pos n
      generalize hvs : ([.int .i64 (n : Int),FN nl ex sz P,.int .i64 (((fwD anyM P n 0).1 : Nat) : Int),v,.ptr ia 0 1,.int .i64 (n : Int),.int .i64 (a : Int),.int .i64 (n : Int),.int .i64 ((b + 1 : Nat) : Int)] : List LV) = vs
      have hvm : v ∈ vs := by rw [← hvs]; simp
      by_cases c2 : (fwD anyM P n 0).1 < (fwD (mayAB a b) P n 0).1
      · have hs : sureL n P a (b :: List.range' (b + 1) j) = (a,b) :: sureL n P a (List.range' (b + 1) j) := by
          unfold sureL
          rw [List.filter_cons_of_pos (by simp [sureB,c,c2])]
          rfl
        have c2' : (((fwD anyM P n 0).1 : Nat) : Int) < (((fwD (mayAB a b) P n 0).1 : Nat) : Int) := by omega
        obtain ⟨v3,m3,hap,hL3,hk3,hlen3,hblk3⟩ := hL2.append (x := .lst false true 2 1 [.int .i64 (a : Int),.int .i64 (b : Int)]) (k := 1) (news := [.int .i64 (a : Int),.int .i64 (b : Int)]) (bytes := 16) (by simp [contents,nbeq]) rfl (by omega) (by omega) rfl
        rw [← Pcs_snoc] at hL3
        have hL3 : Lst m3 v3 2 (out ++ [(a,b)]).length (Pcs (out ++ [(a,b)])) := by simpa using hL3
        rw [hs,List.append_cons]
        generalize hvs3 : ([.int .i64 (n : Int),FN nl ex sz P,.int .i64 (((fwD anyM P n 0).1 : Nat) : Int),v3,.ptr ia 0 1,.int .i64 (n : Int),.int .i64 (a : Int),.int .i64 (n : Int),.int .i64 ((b + 1 : Nat) : Int)] : List LV) = vs3
        have hvm3 : v3 ∈ vs3 := by rw [← hvs3]; simp
        have hia3 : m3[ia]? = some ⟨[.int .i64 (a : Int)],w2⟩ := by rw [hk3 ia (by rw [hlen2]; simp; omega) hbl,hia2]
        obtain ⟨v',M',hex,hL'⟩ := ih (b + 1) (trim M.length vs3 m3) v3 (out ++ [(a,b)]) (by omega) (by simp; omega) (lst_trim hL3 _ _ hvm3) ⟨w2,by rw [trim_get _ _ _ _ hial,hia3]⟩ (by
          intro h
          rcases hblk3 ia h with h | h
          · exact hbl h
          · rw [hlen2] at h; simp at h; omega)
        refine ⟨v',M',?_,hL'⟩
        subst hvs3
        rw [ring_Sure.L0_eq]
        simp only [ring_Sure.B0,exF_seq,exF_region,exF_block,exF_cond,exF_skip,runL,wantL,stepL,evL,evC,LEnv.at,putL,loadFine,loadL,cellsAt,Trk.putNew,Trk.up,Trk.touch,Trk.gives,Trk.calm,Trk.hit,opdsOf,Trk.fresh,LEnv.keep,List.map_cons,List.map_nil,nbeq,nble,nblt,ofAV,ofAVs,bin_add,bin_eql,bin_lss,bin_gtr,natL_zero,List.any_cons,List.any_nil,Bool.or_false,Bool.false_or,Bool.true_or,Bool.or_true,Bool.and_true,Bool.false_and,Bool.not_true,Bool.not_false,Nat.reduceEqDiff,decide_true,decide_false,cond_true,cond_false,List.filter_nil,Nat.reduceAdd,Nat.reduceLeDiff,reduceCtorEq,List.length_nil,List.length_cons,Nat.mul_one,eq_self,List.append_nil,List.nil_append,List.cons_append,views_pures,LV.pures,LV.pure,freeze,Nat.reduceDiv,LV.cells,allocL,List.getElem?_cons_zero,storeL,spliceL,List.take_zero,List.take_succ_cons,List.drop_zero,List.drop_succ_cons,List.drop_nil,List.take_nil,Nat.le_refl,Nat.reduceMul,LV.scalar,List.all_cons,List.all_nil,fillL,List.length_append,hbi,last_at,last_set,hia1,hw,envVals,c',hc,Nat.zero_add,h38,hpos,hat,c2',hia2,hib2,hap,hex]
      · have hs : sureL n P a (b :: List.range' (b + 1) j) = sureL n P a (List.range' (b + 1) j) := by
          unfold sureL
          rw [List.filter_cons_of_neg (by simp [sureB,c,c2])]
        rw [hs]
        have c2' : ¬ (((fwD anyM P n 0).1 : Nat) : Int) < (((fwD (mayAB a b) P n 0).1 : Nat) : Int) := by omega
        obtain ⟨v',M',hex,hL'⟩ := ih (b + 1) (trim M.length vs m2) v out (by omega) (by omega) (lst_trim hL2 _ _ hvm) ⟨w2,by rw [trim_get _ _ _ _ hial,hia2]⟩ hbl
        refine ⟨v',M',?_,hL'⟩
        subst hvs
        rw [ring_Sure.L0_eq]
        simp only [ring_Sure.B0,exF_seq,exF_region,exF_block,exF_cond,exF_skip,runL,wantL,stepL,evL,evC,LEnv.at,putL,loadFine,loadL,cellsAt,Trk.putNew,Trk.up,Trk.touch,Trk.gives,Trk.calm,Trk.hit,opdsOf,Trk.fresh,LEnv.keep,List.map_cons,List.map_nil,nbeq,nble,nblt,ofAV,ofAVs,bin_add,bin_eql,bin_lss,bin_gtr,natL_zero,List.any_cons,List.any_nil,Bool.or_false,Bool.false_or,Bool.true_or,Bool.or_true,Bool.and_true,Bool.false_and,Bool.not_true,Bool.not_false,Nat.reduceEqDiff,decide_true,decide_false,cond_true,cond_false,List.filter_nil,Nat.reduceAdd,Nat.reduceLeDiff,reduceCtorEq,List.length_nil,List.length_cons,Nat.mul_one,eq_self,List.append_nil,List.nil_append,LV.cells,allocL,List.getElem?_cons_zero,storeL,spliceL,List.take_zero,List.take_succ_cons,List.drop_zero,List.drop_succ_cons,List.drop_nil,List.take_nil,Nat.le_refl,LV.scalar,List.all_cons,List.all_nil,List.length_append,hbi,last_at,last_set,hia1,hw,envVals,c',hc,Nat.zero_add,h38,hpos,hat,c2',hex]
theorem sureL_len (n : Nat) (P : List (Nat × Nat)) (a : Nat) (l : List Nat) : (sureL n P a l).length ≤ l.length := by
  unfold sureL
  rw [List.length_map]
  exact List.length_filter_le _ _
theorem sure_out (n : Nat) (P : List (Nat × Nat)) (G : Good n P) (nl ex : Bool) (sz : Nat) (j : Nat) : ∀ (a : Nat) (M : LMem) (v : LV) (out : List (Nat × Nat)),a + j = n → out.length ≤ a * 6 → Lst M v 2 out.length (Pcs out) →
    ∃ v' M',exF LP ring_Sure.L1 [(0,.int .i64 (n : Int)),(1,FN nl ex sz P),(7,.int .i64 (((fwD anyM P n 0).1 : Nat) : Int)),(8,v),(26,.int .i64 (n : Int)),(27,.int .i64 (a : Int))] M = some (.exit 0,[(8,v')],M') ∧
      Lst M' v' 2 (out ++ (List.range' a j).flatMap fun a => sureL n P a (List.range n)).length (Pcs (out ++ (List.range' a j).flatMap fun a => sureL n P a (List.range n))) := by
  have h6 := G.le6
  induction j with
  | zero =>
    intro a M v out ha hout hL
    refine ⟨v,M,?_,by simpa using hL⟩
    rw [ring_Sure.L1_eq]
    simp only [ring_Sure.B1,exF_seq,exF_region,exF_cond,exF_exit,runL,wantL,stepL,evL,LEnv.at,putL,loadFine,LEnv.keep,List.map_cons,List.map_nil,nbeq,bin_lss,Nat.reduceEqDiff,decide_true,decide_false,cond_true,cond_false,reduceCtorEq,eq_self,show ¬ ((a : Int) < (n : Int)) by omega]
  | succ j ih =>
    intro a M v out ha hout hL
    have hai : (a : Int) < (n : Int) := by omega
    have hw := wrap_succ (show a + 1 < 9223372036854775808 by omega)
    have la := last_at M ⟨[.int .i64 (a : Int)],true⟩
    have hLM : Lst (M ++ [⟨[.int .i64 (a : Int)],true⟩]) v 2 out.length (Pcs out) := hL.mono fun i hi => List.getElem?_append_left (hL.lt i hi)
    obtain ⟨v1,M1,hin,hL1⟩ := sure_in n P G nl ex sz a (by omega) M.length n 0 (M ++ [⟨[.int .i64 (a : Int)],true⟩]) v out (by omega) (by omega) hLM ⟨true,la⟩ (fun h => by have := hL.lt _ h; omega)
    rw [← List.range_eq_range'] at hL1
    simp only [Int.natCast_zero] at hin
    have hsl := sureL_len n P a (List.range n)
    rw [List.length_range] at hsl
    generalize hvs : ([.int .i64 (n : Int),FN nl ex sz P,.int .i64 (((fwD anyM P n 0).1 : Nat) : Int),v1,.int .i64 (n : Int),.int .i64 ((a + 1 : Nat) : Int)] : List LV) = vs
    have hvm : v1 ∈ vs := by rw [← hvs]; simp
    obtain ⟨v',M',hex,hL'⟩ := ih (a + 1) (trim M.length vs M1) v1 (out ++ sureL n P a (List.range n)) (by omega) (by simp; omega) (lst_trim hL1 _ _ hvm)
    refine ⟨v',M',?_,?_⟩
    · subst hvs
      rw [ring_Sure.L1_eq]
      simp only [ring_Sure.B1,exF_seq,exF_region,exF_block,exF_cond,exF_skip,runL,wantL,stepL,evL,evC,LEnv.at,putL,loadFine,LEnv.keep,List.map_cons,List.map_nil,nbeq,nble,ofAV,ofAVs,bin_add,bin_lss,Bool.and_true,Nat.reduceEqDiff,decide_true,decide_false,cond_true,cond_false,Nat.reduceAdd,reduceCtorEq,List.length_nil,List.length_cons,eq_self,List.append_nil,List.nil_append,LV.cells,allocL,storeL,spliceL,List.take_zero,List.drop_succ_cons,List.drop_nil,Nat.le_refl,LV.scalar,List.all_cons,List.all_nil,hai,last_at,last_set,hin,hw,envVals,hex]
    · rw [List.range'_succ,List.flatMap_cons,← List.append_assoc]
      exact hL'
def sureS (n : Nat) (P : List (Nat × Nat)) : List (Nat × Nat) := (List.range n).flatMap fun a => sureL n P a (List.range n)
theorem Pcs_pures (l : List (Nat × Nat)) : LV.pures (Pcs l) = true := pcI_pures _
theorem sure_c (n : Nat) (P : List (Nat × Nat)) (G : Good n P) (nl ex : Bool) (sz : Nat) : ∃ a b z,∀ m,clF LP n_ring_Sure [.int .i64 (n : Int),FN nl ex sz P] m = some (.P,.tup [FN a b z (sureS n P),.int .i64 0],m) := by
  have hc := fun m => check_c nl ex sz (n : Int) (P.map castP) (by have := G.le12; simp; omega) m
  rw [chkF_of G] at hc
  have hf := fun m => filledA_c n P G nl ex sz m
  have h38 := tab_38 n P anyM n_ring_anyForm [] []
  have hat := tF_at anyM P n 0 (Nat.two_pow_pos n)
  have hpos := Nat.two_pow_pos n
  obtain ⟨v',M',he,hL⟩ := sure_out n P G nl ex sz n 0 [] (.lst true true 0 0 []) [] (by omega) (by simp) (Lst.nil [] 2)
  rw [List.nil_append,← List.range_eq_range'] at hL
  have hL : Lst M' v' 2 (sureS n P).length (Pcs (sureS n P)) := hL
  obtain ⟨a,b,z,ids,hz,_,_,hvw⟩ := hL.view (Pcs_pures _) (by omega)
  refine ⟨a,b,z,fun m => ?_⟩
  simp only [Int.natCast_zero] at he
  have hv2 : view 100 M' (.tup [v',.int .i64 0]) = some (.tup [FN a b z (sureS n P),.int .i64 0],ids) := by
    simp only [FN_eq]
    by_cases hp : LV.pures [v',.int .i64 0] = true
    · have e := hvw 97
      have hvp : v'.pure = true := by simpa [LV.pures,LV.pure] using hp
      rw [view_pure 98 M' v' hvp] at e
      simp only [Option.some.injEq,Prod.mk.injEq] at e
      obtain ⟨e1,e2⟩ := e
      rw [view_pure 98 M' _ (by simpa [LV.pure] using hp),← e2,e1]
    · exact view_tup2 M' v' (.int .i64 0) _ ids hvw rfl (by simpa using hp)
  refine call_Pv lp_ring_Sure rfl (by simp [LV.pures,LV.pure]) (m1 := M') (v := .tup [v',.int .i64 0]) (ids := ids) ?_ hv2 m
  simp only [ring_Sure,ring_Sure.B,exF_seq,exF_region,exF_block,exF_cond,exF_ret,exF_skip,runL,wantL,stepL,evL,evC,LEnv.at,putL,loadFine,loadL,cellsAt,Trk.putNew,Trk.up,Trk.touch,Trk.gives,Trk.calm,opdsOf,Trk.fresh,LEnv.keep,LEnv.ofFrom,List.map_cons,List.map_nil,nbeq,nble,nblt,ofAVs,bin_neq,natL_zero,List.any_cons,List.any_nil,Bool.or_false,Bool.true_or,Bool.and_true,Bool.true_and,Bool.not_true,Bool.not_false,Nat.reduceEqDiff,decide_true,decide_false,cond_true,cond_false,List.filter_nil,List.filter_cons,Nat.reduceAdd,Nat.reduceLeDiff,reduceCtorEq,List.length_nil,Nat.mul_one,if_true,eq_self,retL,resultsL,resAllL,resOfL,List.append_nil,List.nil_append,not_true_eq_false,ne_eq,List.drop_zero,hc,hf,Nat.zero_add,h38,hpos,hat,he]
end Go.Am.Ring
set_option linter.unusedVariables false
set_option linter.unusedSimpArgs false
set_option maxRecDepth 10000
namespace Go.Am.Ring
open Go.Am.G
theorem pos_inj (o : List Nat) (a b : Nat) (ha : a ∈ o) (hab : a ≠ b) : pos o a ≠ pos o b := by
  induction o with
  | nil => simp at ha
  | cons f r ih =>
    rw [pos_cons,pos_cons]
    by_cases c1 : f = a
    · rw [if_pos c1,if_neg (fun c => hab (c1.symm.trans c))]
      have := pos_ge r b
      split
      · rename_i h; have := (pos_mem r b).2 h; omega
      · omega
    · rw [if_neg c1]
      have har : a ∈ r := by
        rcases List.mem_cons.1 ha with h | h
        · exact absurd h.symm c1
        · exact h
      have := (pos_mem r a).2 har
      have := ih har
      rw [if_pos har]
      by_cases c2 : f = b
      · rw [if_pos c2]; omega
      · rw [if_neg c2]
        split <;> omega
end Go.Am.Ring
set_option linter.unusedVariables false
set_option linter.unusedSimpArgs false
set_option maxRecDepth 10000
namespace Go.Am.Ring
open Go.Am.G
theorem clone2_c (ex : Bool) (l : List (Int × Int)) (hl : l.length < 1000) (hne : l ≠ []) (m : LMem) : clF LP n_slices_Clone_2_int_2_int [FL false ex 2 l] m = some (.O,.sl m.length 0 l.length l.length 2 2 (l.length * 2),m ++ [⟨pcI l,true⟩]) := by
  have h0 : ¬ l.length = 0 := by simpa using hne
  have hr1 : l.length * 16 ≤ roomMost := by unfold roomMost; omega
  have hr2 : l.length ≤ roomMost := by unfold roomMost; omega
  have hsc : (pcI l).all LV.scalar = true := by
    clear hl hne h0 hr1 hr2
    induction l with
    | nil => rfl
    | cons a r ih => exact ih
  have hpl := pcI_len l
  have hshift : ∀ n,LV.shifts n (pcI l) = pcI l := by
    intro n
    rw [pcI]
    clear hl hne h0 hr1 hr2 hsc hpl
    induction l with
    | nil => rfl
    | cons a r ih => rw [List.flatMap_cons]; simp only [pc,List.cons_append,List.nil_append,LV.shifts,LV.shift,ih]
  have hsolid : LV.solids (pcI l) = true := by
    rw [pcI]
    clear hl hne h0 hr1 hr2 hsc hpl hshift
    induction l with
    | nil => rfl
    | cons a r ih => rw [List.flatMap_cons]; simp only [pc,List.cons_append,List.nil_append,LV.solids,LV.solid,ih,Bool.true_and]
  rw [clF_eq,lp_slices_Clone_2_int_2_int]
  simp only [callMode,slices_Clone_2_int_2_int,views_pures m [FL false ex 2 l] (by simp [LV.pures,LV.pure])]
  simp only [slices_Clone_2_int_2_int.B,exF_seq,exF_region,exF_cond,exF_ret,exF_skip,runL,wantL,stepL,evL,evC,LEnv.at,putL,loadFine,LEnv.keep,LEnv.ofFrom,List.map_cons,List.map_nil,nbeq,nble,ofAVs,Nat.zero_mul,Bool.or_false,Bool.or_true,Bool.and_true,Nat.reduceEqDiff,decide_true,decide_false,cond_true,cond_false,reduceCtorEq,List.length_nil,eq_self,retL,resultsL,resAllL,resOfL,List.nil_append,freeze,Nat.reduceDiv,List.take_nil,List.all_cons,List.all_nil,fillL,nilOf,eqsL,Bool.xor_false,LV.shift,newOnly,LV.solid,freeze,appendL,contents,views,viewL,h0,hr1,hr2,hsc,newSl,Nat.zero_add,hshift,hsolid]
theorem clone20_c (nl ex : Bool) (sz : Nat) (m : LMem) : clF LP n_slices_Clone_2_int_2_int [.lst nl ex sz 0 []] m = some (.O,.lst nl true 0 0 [],m) := by
  rw [clF_eq,lp_slices_Clone_2_int_2_int]
  simp only [callMode,slices_Clone_2_int_2_int,views_pures m [.lst nl ex sz 0 []] (by simp [LV.pures,LV.pure])]
  cases nl with
  | true => simp only [slices_Clone_2_int_2_int.B,exF_seq,exF_region,exF_cond,exF_ret,runL,wantL,stepL,evL,evC,LEnv.at,putL,loadFine,LEnv.keep,LEnv.ofFrom,List.map_cons,List.map_nil,nbeq,Bool.and_true,Bool.not_false,Nat.reduceEqDiff,decide_true,decide_false,cond_true,cond_false,reduceCtorEq,eq_self,retL,resultsL,resAllL,resOfL,List.append_nil,freeze,List.all_nil,nilOf,eqsL,Bool.xor_true,LV.shift,newOnly,LV.solid,freeze]
  | false => simp only [slices_Clone_2_int_2_int.B,exF_seq,exF_region,exF_cond,exF_ret,exF_skip,runL,wantL,stepL,evL,evC,LEnv.at,putL,loadFine,LEnv.keep,LEnv.ofFrom,List.map_cons,List.map_nil,nbeq,nble,ofAVs,Nat.zero_mul,Bool.or_false,Bool.true_or,Bool.or_true,Bool.and_true,Nat.reduceEqDiff,decide_true,decide_false,cond_true,cond_false,Nat.reduceAdd,reduceCtorEq,List.length_nil,eq_self,retL,resultsL,resAllL,resOfL,List.append_nil,freeze,Nat.reduceDiv,List.take_nil,List.all_nil,fillL,nilOf,eqsL,Bool.xor_false,LV.shift,newOnly,LV.solid,freeze,appendL,contents,views,viewL]
end Go.Am.Ring
