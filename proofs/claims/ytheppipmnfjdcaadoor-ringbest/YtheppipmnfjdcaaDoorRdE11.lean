import Derived.Test.YtheppipmnfjdcaaDoorRdE1
import Derived.Test.YtheppipmnfjdcaaDoorRdC9
import Derived.Test.YtheppipmnfjdcaaDoorRdD1
import Derived.Carry
import Derived.LaidMore
import Derived.MakeChecks
set_option linter.unusedVariables false
set_option linter.unusedSimpArgs false
set_option maxRecDepth 10000
set_option maxHeartbeats 1000000
namespace Go.Am.Ring
open Go.Am.G
theorem viewsX {m : LMem} {v : LV} {P : List (Nat × Nat)} (hL : Lst m v 2 P.length (Pcs P)) (x : LV) (hx : x.pure = true) : ∃ a b z ids,views m [x,v] = some ([x,FN a b z P],ids) := by
  obtain ⟨a,b,z,ids,hz,hn,hb,hvw⟩ := hL.view (Pcs_pures P) (by omega)
  have hlen : FN a b z P = .lst a b z P.length (Pcs P) := FN_eq a b z P
  refine ⟨a,b,z,ids,?_⟩
  rw [hlen]
  by_cases hp : LV.pures [x,v] = true
  · have e1 := hvw 97
    have hvp : v.pure = true := by simpa [LV.pures,LV.pure,hx] using hp
    rw [view_pure 98 m v hvp] at e1
    simp only [Option.some.injEq,Prod.mk.injEq] at e1
    obtain ⟨e1,e2⟩ := e1
    rw [views_pures m _ hp,← e2,e1]
  · exact views_snd 92 m x v _ ids hvw hx (by simpa using hp)
def wntL (C : List Bool) (a : Nat) (l : List Nat) : List (Nat × Nat) := (l.filter fun b => C.getD (a * 6 + b) false).map fun b => (a,b)
theorem wntL_len (C : List Bool) (a : Nat) (l : List Nat) : (wntL C a l).length ≤ l.length := by
  unfold wntL
  rw [List.length_map]
  exact List.length_filter_le _ _
abbrev bestE (n : Nat) (v : LV) (a : Nat) (r : LEnv) : LEnv := (3,.ptr 1 0 1) :: (4,.ptr 2 0 1) :: (5,.ptr 3 0 1) :: (6,.ptr 4 0 1) :: (7,.ptr 5 0 1) :: (8,.ptr 6 0 36) :: (9,.ptr 7 0 1) :: (11,v) :: r
theorem want_in (n : Nat) (hn : n ≤ 6) (C : List Bool) (hC : C.length = 36) (a : Nat) (ha : a < n) (K : Nat) (hK : 6 < K) (j : Nat) : ∀ (b : Nat) (M : LMem) (v : LV) (out : List (Nat × Nat)),b + j = n → out.length ≤ 100 + b → Lst M v 2 out.length (Pcs out) → M[6]? = some ⟨bools C,true⟩ → (∀ i,isBlk v i → K ≤ i) → K ≤ M.length →
    ∃ v' M',exF LP law04_RingBest.L0 (bestE n v a [(12,.int .i64 (a : Int)),(30,.int .i64 (n : Int)),(31,.int .i64 (a : Int)),(34,.int .i64 (n : Int)),(35,.int .i64 (b : Int))]) M =
      some (.exit 2,bestE n v' a [(30,.int .i64 (n : Int)),(31,.int .i64 (a : Int))],M') ∧
      Lst M' v' 2 (out ++ wntL C a (List.range' b j)).length (Pcs (out ++ wntL C a (List.range' b j))) ∧ (∀ i,i < K → M'[i]? = M[i]?) ∧ (∀ i,isBlk v' i → K ≤ i) ∧ K ≤ M'.length := by
  induction j with
  | zero =>
    intro b M v out hb hout hL h6 hbl hKM
    refine ⟨v,M,?_,by simpa [wntL] using hL,fun _ _ => rfl,hbl,hKM⟩
    rw [law04_RingBest.L0_eq]
    simp only [law04_RingBest.B0,exF_seq,exF_region,exF_cond,exF_exit,runL,wantL,stepL,evL,LEnv.at,putL,loadFine,LEnv.keep,List.map_cons,List.map_nil,nbeq,bin_lss,Nat.reduceEqDiff,decide_true,decide_false,cond_true,cond_false,eq_self,show ¬ ((b : Int) < (n : Int)) by omega]
  | succ j ih =>
    intro b M v out hb hout hL h6 hbl hKM
    have hbi : (b : Int) < (n : Int) := by omega
    have hw := wrap_succ (show b + 1 < 9223372036854775808 by omega)
    have hCl : (bools C).length = 36 := by simp [hC]
    have hab : a * 6 + b < C.length := by omega
    have hat : (bools C)[a * 6 + b]? = some (.bool (C.getD (a * 6 + b) false)) := by
      rw [List.getElem?_map,List.getD_eq_getElem?_getD,List.getElem?_eq_getElem hab]; rfl
    have a6 : a < 6 := by omega
    have b6 : b < 6 := by omega
    have l1 : a * 6 + 6 ≤ 36 := by omega
    have l2 : a * 6 + b + 1 ≤ 36 := by omega
    rw [List.range'_succ]
    cases c : C.getD (a * 6 + b) false
    · have hs : wntL C a (b :: List.range' (b + 1) j) = wntL C a (List.range' (b + 1) j) := by
        unfold wntL
        rw [List.filter_cons_of_neg (by show ¬ C.getD (a * 6 + b) false = true; rw [c]; decide)]
      rw [hs]
      rw [c] at hat
      obtain ⟨v',M',hex,h2,h3,h4,h5⟩ := ih (b + 1) M v out (by omega) (by omega) hL h6 hbl hKM
      refine ⟨v',M',?_,h2,h3,h4,h5⟩
      rw [law04_RingBest.L0_eq]
      generalize bools C = BC at *
      simp only [law04_RingBest.B0,exF_seq,exF_region,exF_block,exF_cond,exF_skip,runL,wantL,stepL,evL,evC,LEnv.at,putL,loadFine,loadL,cellsAt,Trk.putNew,Trk.up,Trk.touch,Trk.gives,Trk.calm,Trk.hit,opdsOf,Trk.fresh,LEnv.keep,List.map_cons,List.map_nil,nbeq,nble,nblt,bin_add,bin_lss,natL_nat,List.any_cons,List.any_nil,Bool.or_false,Bool.false_or,Bool.true_or,Bool.and_true,Nat.reduceEqDiff,decide_true,decide_false,cond_true,cond_false,List.filter_nil,Nat.reduceAdd,Nat.reduceLeDiff,Nat.mul_one,eq_self,hbi,h6,hCl,a6,b6,l2,Nat.zero_add,hat,hw,hex]
    · have hs : wntL C a (b :: List.range' (b + 1) j) = (a,b) :: wntL C a (List.range' (b + 1) j) := by
        unfold wntL
        rw [List.filter_cons_of_pos (by show C.getD (a * 6 + b) false = true; exact c)]
        rfl
      rw [c] at hat
      obtain ⟨v3,m3,hap,hL3,hk3,hlen3,hblk3⟩ := hL.append (x := .lst false true 2 1 [.int .i64 (a : Int),.int .i64 (b : Int)]) (k := 1) (news := [.int .i64 (a : Int),.int .i64 (b : Int)]) (bytes := 16) (by simp [contents,nbeq]) rfl (by omega) (by omega) rfl
      rw [← Pcs_snoc] at hL3
      have hL3 : Lst m3 v3 2 (out ++ [(a,b)]).length (Pcs (out ++ [(a,b)])) := by simpa using hL3
      rw [hs,List.append_cons]
      have hk : ∀ i,i < K → m3[i]? = M[i]? := fun i hi => hk3 i (by omega) fun h => by have := hbl i h; omega
      obtain ⟨v',M',hex,h2,h3,h4,h5⟩ := ih (b + 1) m3 v3 (out ++ [(a,b)]) (by omega) (by simp; omega) hL3 (by rw [hk 6 hK]; exact h6) (fun i hi => by
        rcases hblk3 i hi with h | h
        · exact hbl i h
        · omega) (by omega)
      refine ⟨v',M',?_,h2,fun i hi => by rw [h3 i hi,hk i hi],h4,h5⟩
      rw [law04_RingBest.L0_eq]
      generalize bools C = BC at *
      simp only [law04_RingBest.B0,exF_seq,exF_region,exF_block,exF_cond,exF_skip,runL,wantL,stepL,evL,evC,LEnv.at,putL,loadFine,loadL,cellsAt,Trk.putNew,Trk.up,Trk.touch,Trk.gives,Trk.calm,Trk.hit,opdsOf,Trk.fresh,LEnv.keep,List.map_cons,List.map_nil,nbeq,nble,nblt,ofAV,ofAVs,bin_add,bin_lss,natL_nat,List.any_cons,List.any_nil,Bool.or_false,Bool.false_or,Bool.true_or,Bool.and_true,Nat.reduceEqDiff,decide_true,decide_false,cond_true,cond_false,List.filter_nil,Nat.reduceAdd,Nat.reduceLeDiff,reduceCtorEq,List.length_nil,List.length_cons,Nat.mul_one,eq_self,List.append_nil,List.nil_append,List.cons_append,views_pures,LV.pures,LV.pure,freeze,Nat.reduceDiv,LV.cells,spliceL,List.take_zero,List.take_succ_cons,List.drop_zero,List.drop_succ_cons,List.drop_nil,List.take_nil,Nat.le_refl,Nat.reduceMul,fillL,hbi,h6,hCl,a6,b6,l2,Nat.zero_add,hat,hap,hw,hex]
theorem want_out (n : Nat) (hn : n ≤ 6) (C : List Bool) (hC : C.length = 36) (K : Nat) (hK : 6 < K) (j : Nat) : ∀ (a : Nat) (M : LMem) (v : LV) (out : List (Nat × Nat)),a + j = n → out.length ≤ a * 6 → Lst M v 2 out.length (Pcs out) → M[1]? = some ⟨[.int .i64 (n : Int)],true⟩ → M[6]? = some ⟨bools C,true⟩ → (∀ i,isBlk v i → K ≤ i) → K ≤ M.length →
    ∃ v' M',exF LP law04_RingBest.L1 (bestE n v a [(30,.int .i64 (n : Int)),(31,.int .i64 (a : Int))]) M =
      some (.exit 0,[(3,.ptr 1 0 1),(4,.ptr 2 0 1),(5,.ptr 3 0 1),(6,.ptr 4 0 1),(7,.ptr 5 0 1),(9,.ptr 7 0 1),(11,v')],M') ∧
      Lst M' v' 2 (out ++ (List.range' a j).flatMap fun a => wntL C a (List.range n)).length (Pcs (out ++ (List.range' a j).flatMap fun a => wntL C a (List.range n))) ∧ (∀ i,i < K → M'[i]? = M[i]?) := by
  induction j with
  | zero =>
    intro a M v out ha hout hL h1 h6 hbl hKM
    refine ⟨v,M,?_,by simpa using hL,fun _ _ => rfl⟩
    rw [law04_RingBest.L1_eq]
    simp only [law04_RingBest.B1,exF_seq,exF_region,exF_cond,exF_exit,runL,wantL,stepL,evL,LEnv.at,putL,loadFine,LEnv.keep,List.map_cons,List.map_nil,nbeq,bin_lss,Nat.reduceEqDiff,decide_true,decide_false,cond_true,cond_false,eq_self,show ¬ ((a : Int) < (n : Int)) by omega]
  | succ j ih =>
    intro a M v out ha hout hL h1 h6 hbl hKM
    have hai : (a : Int) < (n : Int) := by omega
    have hw := wrap_succ (show a + 1 < 9223372036854775808 by omega)
    obtain ⟨v1,M1,hin,hL1,hk1,hb1,hKM1⟩ := want_in n hn C hC a (by omega) K hK n 0 M v out (by omega) (by omega) hL h6 hbl hKM
    rw [← List.range_eq_range'] at hL1
    simp only [Int.natCast_zero] at hin
    have hsl := wntL_len C a (List.range n)
    rw [List.length_range] at hsl
    obtain ⟨v',M',hex,hL',hk'⟩ := ih (a + 1) M1 v1 (out ++ wntL C a (List.range n)) (by omega) (by simp; omega) hL1 (by rw [hk1 1 (by omega)]; exact h1) (by rw [hk1 6 hK]; exact h6) hb1 hKM1
    refine ⟨v',M',?_,?_,fun i hi => by rw [hk' i hi,hk1 i hi]⟩
    · rw [law04_RingBest.L1_eq]
      simp only [law04_RingBest.B1,exF_seq,exF_region,exF_block,exF_cond,exF_skip,runL,wantL,stepL,evL,evC,LEnv.at,putL,loadFine,loadL,cellsAt,Trk.calm,Trk.hit,LEnv.keep,List.map_cons,List.map_nil,nbeq,nble,bin_add,bin_lss,List.any_nil,Bool.or_false,Bool.false_or,Bool.true_or,Bool.and_true,Nat.reduceEqDiff,decide_true,decide_false,cond_true,cond_false,Nat.reduceAdd,Nat.reduceLeDiff,List.length_nil,List.length_cons,eq_self,List.getElem?_cons_zero,List.take_succ_cons,List.drop_zero,List.take_nil,Nat.le_refl,hai,h1,hin,hw,hex]
    · rw [List.range'_succ,List.flatMap_cons,← List.append_assoc]
      exact hL'
theorem want_sure {n : Nat} {P : List (Nat × Nat)} (G : Good n P) : ((List.range' 0 n).flatMap fun a => wntL (surC (bestO P n)) a (List.range n)) = sureS n P := by
  rw [sureS_eq G,surS,← List.range_eq_range']
  refine flat_cong fun a ha => ?_
  have ha := List.mem_range.1 ha
  rw [wntL,surL]
  congr 1
  refine List.filter_congr fun b hb => ?_
  have hb := List.mem_range.1 hb
  have h6 := G.le6
  rw [List.getD_eq_getElem?_getD,surC_at _ a b (by omega) (by omega),Option.getD_some]
  exact surC_R G.le6 (fun o ho => (bestO_mem ho).1) ha hb (bestO_ne G)
theorem best_law (f k : Nat) (hf : f < 256) (hk : k < 256) (bs : List Nat) (hb : bs.length = 24) (hbs : ∀ x ∈ bs,x < 256) :
    clF LP n_law04_RingBest [.agg (bys (f :: k :: bs))] [] = some (.P,.bool true,[]) := by
  obtain ⟨a,b,z,hv,hmade⟩ := made_c f k hf hk bs hb hbs 6 12 (by omega) (by omega)
  have hn : 2 ≤ 2 + f % (6 - 1) ∧ 2 + f % (6 - 1) ≤ 6 := by omega
  have G := made_good hn.1 hn.2 bs (i := k % (12 + 1)) (by omega)
  generalize madeP (2 + f % (6 - 1)) bs (k % (12 + 1)) = P at *
  generalize (2 + f % (6 - 1) : Nat) = n at *
  have hlen : (bys (f :: k :: bs)).length = 26 := by simp [hb]
  have htk : (bys (f :: k :: bs)).take 26 = bys (f :: k :: bs) := List.take_of_length_le (by rw [hlen]; exact Nat.le_refl _)
  let W : LBlk := ⟨bys (f :: k :: bs),true⟩
  let M9 : LMem := [W,⟨[.int .i64 (n : Int)],true⟩,⟨[FN a b z P],true⟩,⟨[.int .i64 100],true⟩,⟨[.int .i64 0],true⟩,⟨[.lst true true 0 0 []],true⟩,⟨bools (List.replicate 36 false),true⟩,⟨[.bool true],true⟩,⟨[.int .i64 0],true⟩]
  have hC9 : Cl M9 := by
    intro i hi B hB
    simp only [M9,List.mem_cons,List.not_mem_nil,or_false] at hB
    rcases hB with rfl | rfl | rfl | rfl | rfl | rfl | rfl | rfl | rfl
    · exact noRefs_int i .u8 (ci (f :: k :: bs))
    · rfl
    · rw [FN_eq]; rfl
    all_goals rfl
  have hI9 : BI n P (FN a b z P) (0,[]) [1,2,3,4,5,6,7,8] M9 := ⟨by simp,by simp,rfl,rfl,rfl,rfl,rfl,rfl,rfl,.inl ⟨rfl,rfl,rfl⟩⟩
  obtain ⟨M10,O',hall,hI⟩ := all_c (m := M9) (by omega) G.le6 (bestVis G a b z) (0,[]) [1,2,3,4,5,6,7,8] hI9 hC9 rfl rfl
  have hI : BI n P (FN a b z P) ((ords n).foldl (fun s o => (s.1 + 1,bstep P s.2 o)) (0,[])) O' M10 := hI
  rw [best_fold] at hI
  simp only [Nat.zero_add] at hI
  rw [bestS_all G] at hI
  have hne := bestO_ne G
  have hlt10 := get_lt hI.c8
  have hhd := headD_mem (bestO P n) [] hne
  have hho := ords_ok (bestO_mem hhd).1
  obtain ⟨br,w,hbr,c5,cb⟩ : ∃ br w,8 < br ∧ M10[5]? = some ⟨[.sl br 0 n n 1 1 n],true⟩ ∧ M10[br]? = some ⟨ints (ci ((bestO P n).headD [])),w⟩ := by
    rcases hI.c5 with ⟨h,_⟩ | ⟨_,br,w,h1,h2,h3,_⟩
    · exact absurd h hne
    · exact ⟨br,w,h1,h2,h3⟩
  have hbl := get_lt cb
  have c6 : M10[6]? = some ⟨bools (surC (bestO P n)),true⟩ := by
    have := hI.c6
    rwa [tabB,if_neg hne] at this
  obtain ⟨v',M11,hex,hL,hkeep⟩ := want_out n G.le6 (surC (bestO P n)) (surC_len _) M10.length (by omega) n 0 M10 (.lst true true 0 0 []) [] (by omega) (by simp) (Lst.nil _ 2) hI.c1 c6 (fun i hi => by simp [isBlk] at hi) (Nat.le_refl _)
  rw [List.nil_append,want_sure G] at hL
  have d1 : M11[1]? = _ := (hkeep 1 (by omega)).trans hI.c1
  have d2 : M11[2]? = _ := (hkeep 2 (by omega)).trans hI.c2
  have d3 : M11[3]? = _ := (hkeep 3 (by omega)).trans hI.c3
  have d4 : M11[4]? = _ := (hkeep 4 (by omega)).trans hI.c4
  have d5 : M11[5]? = _ := (hkeep 5 (by omega)).trans c5
  have d7 : M11[7]? = _ := (hkeep 7 (by omega)).trans hI.c7
  have db : M11[br]? = _ := (hkeep br hbl).trans cb
  rw [fewB,if_neg hne,(bestO_mem hhd).2] at d3
  rw [bestO_len G] at d4
  rw [bestO_first G] at db hho
  have hgl := hho.2.1
  have hF := fun m => fewest_c n P G a b z m
  have hO := fun m => order_c n P G a b z m
  have hN := fun m => count_c n P G a b z m
  obtain ⟨sa,sb,sz,hS⟩ := sure_c n P G a b z
  have hgne : ci (gre P n n 0) ≠ [] := by
    intro c; have := congrArg List.length c; rw [ci_len,hgl] at this; simp at this; omega
  have hsame : clF LP n_law04_same [RL (ci (gre P n n 0)),.sl br 0 n n 1 1 n] M11 = some (.P,.bool true,M11) := by
    rw [RL_ne hgne]
    have h1 := same_c false false false false 1 1 (ci (gre P n n 0)) (ci (gre P n n 0)) (by rw [ci_len]; omega) (by rw [ci_len]; omega) []
    rw [decide_eq_true rfl] at h1
    exact call_view lp_law04_same rfl (views2 (fun k => view_ord db n hgl k) rfl rfl) (by simp [LV.pures,LV.pure]) h1 rfl
  have hpairs : clF LP n_law04_pairs [FN sa sb sz (sureS n P),v'] M11 = some (.P,.bool true,M11) := by
    have hpu : ∀ x y q,LV.pure (FN x y q (sureS n P)) = true := fun x y q => rfl
    obtain ⟨xa,xb,xz,ids,hvw⟩ := viewsX hL (FN sa sb sz (sureS n P)) (hpu _ _ _)
    have hsl : (sureS n P).length ≤ 36 := by
      have : ∀ l : List Nat,(l.flatMap fun a => sureL n P a (List.range n)).length ≤ l.length * 6 := by
        intro l
        induction l with
        | nil => simp
        | cons x l ih =>
          have := sureL_len n P x (List.range n)
          have h6 := G.le6
          rw [List.length_range] at this
          rw [List.flatMap_cons,List.length_append,List.length_cons]; omega
      have := this (List.range n)
      have h6 := G.le6
      rw [List.length_range] at this
      show (List.flatMap _ _).length ≤ 36
      omega
    have h1 := pairs_c sa sb xa xb sz xz ((sureS n P).map castP) ((sureS n P).map castP) (by simp; omega) (by simp; omega) []
    rw [decide_eq_true rfl] at h1
    exact call_view lp_law04_pairs rfl hvw (by simp only [LV.pures,hpu,Bool.and_self]) h1 rfl
  have lP : lenL (FN a b z P) = some P.length := by rw [FN_eq]; rfl
  refine call_P lp_law04_RingBest rfl (by simp only [LV.pures,LV.pure,pures_int,Bool.and_self]) (m1 := M11) ?_ rfl []
  have e6 : ((6 : Nat) : Int) = 6 := rfl
  have e12 : ((12 : Nat) : Int) = 12 := rfl
  rw [e6,e12] at hmade
  simp only [Int.natCast_zero,bestE] at hex
  have hall : clF LP n_law04_all [.int .i64 (n : Int),.func n_law04_RingBest_1 [] [.ptr 2 0 1,.ptr 8 0 1,.ptr 1 0 1,.ptr 7 0 1,.ptr 3 0 1,.ptr 4 0 1,.ptr 5 0 1,.ptr 6 0 36]] M9 = some (.W,.tup [],M10) := hall
  have h1 := hI.c1
  simp only [M9,W,List.replicate,List.map_cons,List.map_nil] at hall
  generalize FN sa sb sz (sureS n P) = SP at *
  have d2 : M11[2]? = some ⟨[FN a b z P],true⟩ := d2
  simp only [FN_eq] at hmade hall hF hO hN hS d2 ⊢
  generalize pcI (P.map castP) = PI at *
  generalize RL (ci (gre P n n 0)) = RG at *
  generalize bys (f :: k :: bs) = Wb at *
  simp only [law04_RingBest,law04_RingBest.B,law04_RingBest.B.R0,law04_RingBest.B.R1,law04_RingBest.B.R2,law04_RingBest.B.R3,law04_RingBest.B.R4,law04_RingBest.B.R5]
  repeat (rw [exF_seq]; try simp (maxSteps := 1000000) only [beqT,exF_seq,exF_region,exF_block,exF_ret,runL,wantL,stepL,evL,evC,LEnv.at,putL,loadFine,loadL,cellsAt,Trk.putNew,Trk.up,Trk.touch,Trk.gives,Trk.calm,Trk.hit,opdsOf,Trk.fresh,LEnv.keep,LEnv.ofFrom,List.map_cons,List.map_nil,nbeq,nble,ofAV,ofAVs,bin_eql,List.any_cons,List.any_nil,Bool.or_false,Bool.false_or,Bool.true_or,Bool.or_true,Bool.and_true,Bool.false_and,Bool.not_true,Bool.not_false,Nat.reduceEqDiff,decide_true,decide_false,cond_true,cond_false,List.filter_nil,List.filter_cons,Nat.reduceAdd,Nat.reduceLeDiff,reduceCtorEq,List.length_nil,List.length_cons,if_true,eq_self,retL,resultsL,resAllL,resOfL,List.append_nil,List.nil_append,List.cons_append,LV.cells,allocL,List.getElem?_cons_zero,List.getElem?_cons_succ,storeL,spliceL,List.take_zero,List.take_succ_cons,List.drop_zero,List.drop_succ_cons,List.drop_nil,List.take_nil,Nat.le_refl,List.set_cons_zero,List.set_cons_succ,LV.scalar,List.all_cons,List.all_nil,hlen,htk,hmade,hall,h1,hex,d1,d2,d3,d4,d5,d7,hF,hO,hN,hS,hsame,hpairs,works_c])
theorem best_in (ns : List Int) (hl : ns.length = 26) (h : ∀ x ∈ ns,0 ≤ x ∧ x < 256) : clF LP n_law04_RingBest [.agg (ns.map (LV.int .u8))] [] = some (.P,.bool true,[]) := by
  obtain ⟨f,k,bs,e,hf,hk,hb,hbs⟩ := lay_of ns hl h
  rw [e]
  exact best_law f k hf hk bs hb hbs
end Go.Am.Ring
set_option linter.unusedVariables false
namespace Go.Am
variable [Glo]
open Go.RowKit
omit [Glo] in
theorem trodAll_below {H : Type} {enc : TypeId × Value → H} {P : Program} {W W' : World} (hl : laidOutB P = true) (hb : Below W.heap.size W W') : ∀ {ts : List TypeId} {vs : List Value} {ds : List (DataW H)} {ps : List MemPlace},(ts.all fun t => P.readableRec t && decide (t < P.types.size)) = true →
    DataW.TrodAll enc P W 0 (fun _ => true) true ts vs ds ps → (∀ x ∈ ps,x.block < W.heap.size) → DataW.TrodAll enc P W' 0 (fun b => decide (b < W.heap.size)) true ts vs ds ps
  | [],[],[],_,_,h,_ => h
  | t :: ts,v :: vs,d :: ds,ps,hr,⟨p,q,h1,h2,e⟩,hlt => by
    simp only [List.all_cons,Bool.and_eq_true,decide_eq_true_eq] at hr
    subst e
    exact ⟨p,q,Below.trod hl hr.1.1 hr.1.2 h1 hb (fun x hx => hlt x (List.mem_append_left _ hx)),trodAll_below hl hb hr.2 h2 (fun x hx => hlt x (List.mem_append_right _ hx)),rfl⟩
end Go.Am
set_option linter.unusedVariables false
namespace Go.Am
variable [Glo]
open Go.RowKit
def sumPc : Nat → List (Nat × Nat) → Option Nat
  | off,[] => some off
  | off,(o,k) :: r => cond (Nat.beq o off) (sumPc (off + k) r) none
def pcsF (P : Program) (g : TypeId → Option Nat) : List Field → Option (List (Nat × Nat))
  | [] => some []
  | f :: r => match g f.type with
    | some k => match pcsF P g r with
      | some l => cond (Nat.beq (P.cellsOf f.type) k) (some ((f.offset,k) :: l)) none
      | none => none
    | none => none
def u8T (P : Program) : Nat → TypeId → Option Nat
  | 0,_ => none
  | n + 1,t => match P.underlying t with
    | some (.int .u8) => some 1
    | some (.array m e) => match u8T P n e with
      | some k => cond (Nat.beq (P.cellsOf e) k && Nat.beq (P.cellsOf t) (m * k)) (some (m * k)) none
      | none => none
    | some (.struct fs) => match pcsF P (u8T P n) fs.toList with
      | some l => match sumPc 0 l with
        | some k => cond (Nat.beq (P.cellsOf t) k) (some k) none
        | none => none
      | none => none
    | _ => none
def U8s (cs : List Value) : Prop := ∀ (i : Nat) (v : Value),cs[i]? = some v → ∃ n : Int,v = .int .u8 n ∧ (Lit.int .u8 n).wf = true
omit [Glo] in
theorem sumPc_in : ∀ (l : List (Nat × Nat)) (off tot : Nat),sumPc off l = some tot → ∀ i,off ≤ i → i < tot → ∃ p ∈ l,p.1 ≤ i ∧ i < p.1 + p.2
  | [],off,tot,h,i,h1,h2 => by simp only [sumPc,Option.some.injEq] at h; omega
  | (o, k) :: r,off,tot,h,i,h1,h2 => by
    simp only [sumPc] at h
    cases c : Nat.beq o off <;> rw [c] at h
    · cases h
    · have e : o = off := by simpa using c
      subst e
      by_cases hi : i < o + k
      · exact ⟨(o,k),by simp,h1,hi⟩
      · obtain ⟨p,hp,h3⟩ := sumPc_in r _ _ h i (by omega) h2
        exact ⟨p,by simp [hp],h3⟩
omit [Glo] in
theorem pcsF_in {P : Program} {g : TypeId → Option Nat} : ∀ (fs : List Field) (l : List (Nat × Nat)),pcsF P g fs = some l → ∀ p ∈ l,∃ (i : Nat) (f : Field),fs[i]? = some f ∧ f.offset = p.1 ∧ g f.type = some p.2 ∧ P.cellsOf f.type = p.2
  | [],l,h,p,hp => by simp only [pcsF,Option.some.injEq] at h; subst h; cases hp
  | f :: r, l,h,p,hp => by
    simp only [pcsF] at h
    split at h
    · rename_i k hk
      split at h
      · rename_i l' hl'
        cases c : Nat.beq (P.cellsOf f.type) k <;> rw [c] at h
        · cases h
        · simp only [cond_true,Option.some.injEq] at h
          subst h
          rcases List.mem_cons.1 hp with rfl | hp
          · exact ⟨0,f,rfl,rfl,hk,by simpa using c⟩
          · obtain ⟨i,f',h1,h2⟩ := pcsF_in r l' hl' p hp
            exact ⟨i + 1,f',by simpa using h1,h2⟩
      · cases h
    · cases h
section
variable {H : Type} {enc : TypeId × Value → H} {P : Program} {w : World} {base : Nat} {sp : Nat → Bool} {held : Bool}
omit [Glo] in
theorem u8T_ok : ∀ (n : Nat) (t : TypeId) (fuel : Nat) (cs : List Value) (x : DataW H × List MemPlace) (k : Nat),u8T P n t = some k → DataW.trod enc P w base sp held fuel t cs = some x → U8s cs ∧ cs.length = k
  | 0,_,_,_,_,_,h,_ => by cases h
  | n + 1,t,fuel,cs,x,k,h,hx => by
    simp only [u8T] at h
    split at h
    · rename_i ht
      cases h
      obtain ⟨a,rfl,_,hw⟩ := DataW.trod_int ht hx
      refine ⟨fun i v hv => ?_,rfl⟩
      match i with
      | 0 => simp at hv; subst hv; exact ⟨a,rfl,hw⟩
      | i + 1 => simp at hv
    · rename_i m e ht
      split at h
      · rename_i k' hk'
        cases c : (Nat.beq (P.cellsOf e) k' && Nat.beq (P.cellsOf t) (m * k')) <;> rw [c] at h
        · cases h
        · simp only [cond_true,Option.some.injEq] at h
          subst h
          simp only [Bool.and_eq_true] at c
          have c1 : P.cellsOf e = k' := by simpa using c.1
          have c2 : P.cellsOf t = m * k' := by simpa using c.2
          obtain ⟨xs,m',_,_,hl,hxl,hf⟩ := DataW.trod_array ht hx
          rw [c2] at hl
          refine ⟨fun i v hv => ?_,hl⟩
          have hi : i < m * k' := by rw [← hl]; exact (List.getElem?_eq_some_iff.1 hv).1
          have hk0 : 0 < k' := by
            rcases Nat.eq_zero_or_pos k' with e0 | e0
            · rw [e0] at hi; simp at hi
            · exact e0
          have h1 : i / k' < m := (Nat.div_lt_iff_lt_mul hk0).2 hi
          have h2 : i % k' < k' := Nat.mod_lt _ hk0
          have h3 : (i / k') * k' + i % k' = i := by rw [Nat.mul_comm]; exact Nat.div_add_mod i k'
          have h4 := hf (i / k') h1
          rw [c1] at h4
          obtain ⟨y,hy⟩ : ∃ y,xs[i / k']? = some y := ⟨xs[i / k']'(by omega),List.getElem?_eq_getElem (by omega)⟩
          rw [hy] at h4
          obtain ⟨h5,_⟩ := u8T_ok n e m' _ y k' hk' h4
          refine h5 (i % k') v ?_
          rw [List.getElem?_take,if_pos h2,List.getElem?_drop,h3]
          exact hv
      · cases h
    · rename_i fs ht
      split at h
      · rename_i l hl'
        split at h
        · rename_i k' hk'
          cases c : Nat.beq (P.cellsOf t) k' <;> rw [c] at h
          · cases h
          · simp only [cond_true,Option.some.injEq] at h
            subst h
            have c2 : P.cellsOf t = k' := by simpa using c
            obtain ⟨xs,m',_,_,hl,hxl,hf⟩ := DataW.trod_struct ht hx
            rw [c2] at hl
            refine ⟨fun i v hv => ?_,hl⟩
            have hi : i < k' := by rw [← hl]; exact (List.getElem?_eq_some_iff.1 hv).1
            obtain ⟨p,hp,p1,p2⟩ := sumPc_in l 0 k' hk' i (Nat.zero_le _) hi
            obtain ⟨j,f,f1,f2,f3,f4⟩ := pcsF_in _ _ hl' p hp
            have f1' : fs[j]? = some f := by simpa using f1
            have hj : j < fs.size := (Array.getElem?_eq_some_iff.1 f1').1
            have h4 := hf j f f1'
            rw [f4,f2] at h4
            obtain ⟨y,hy⟩ : ∃ y,xs[j]? = some y := ⟨xs[j]'(by omega),List.getElem?_eq_getElem (by omega)⟩
            rw [hy] at h4
            obtain ⟨h5,_⟩ := u8T_ok n f.type m' _ y p.2 f3 h4
            refine h5 (i - p.1) v ?_
            rw [List.getElem?_take,if_pos (by omega),List.getElem?_drop,show p.1 + (i - p.1) = i by omega]
            exact hv
        · cases h
      · cases h
    · cases h
omit [Glo] in
theorem u8s_list : ∀ {cs : List Value},U8s cs → ∃ ns : List Int,cs = ns.map (Value.int .u8) ∧ ∀ n ∈ ns,0 ≤ n ∧ n < 256
  | [],_ => ⟨[],rfl,by simp⟩
  | v :: r,h => by
    obtain ⟨n,rfl,hw⟩ := h 0 v rfl
    obtain ⟨ns,e,hb⟩ := u8s_list (cs := r) fun i v hv => h (i + 1) v (by simpa using hv)
    refine ⟨n :: ns,by rw [e]; rfl,?_⟩
    intro x hx
    rcases List.mem_cons.1 hx with rfl | hx
    · have := bounds_u8 hw; omega
    · exact hb x hx
omit [Glo] in
theorem argOk_bytes (w : World) (ns : List Int) : ArgOk w (.agg (ns.map (Value.int .u8)).toArray) (.agg (ns.map (LV.int .u8))) := by
  refine ⟨fun _ => [],[],fun _ => .agg (ns.map (AV.int .u8)),fun _ => rfl,fun ρ b _ => ⟨.agg ?_,fun i cs p h => by simp at h⟩,fun s b _ => .agg ?_⟩
  · show VRs ρ _ (ns.map (Value.int .u8)).toArray.toList
    simp only []
    induction ns with
    | nil => exact .nil
    | cons n r ih => exact .cons (.int _ _) ih
  · exact LRs.map _ fun x _ => .int _ _
omit [Glo] in
theorem argOk_struct {r : Reach} {b0 n k : Nat} {t : TypeId} {fs : Array Field} {v : Value} {d : DataW H} {ps : List MemPlace} (ht : P.underlying t = some (.struct fs)) (hk : u8T P n t = some k)
    (hval : Value.okWide P w r b0 t v) (hd : DataW.Trod enc P w base sp held t v d ps) :
    ∃ ns : List Int,ns.length = k ∧ (∀ n ∈ ns,0 ≤ n ∧ n < 256) ∧ ArgOk w v (.agg (ns.map (LV.int .u8))) := by
  obtain ⟨cs,rfl,_⟩ := Go.WideShapes.okWide_struct ht hval
  obtain ⟨fuel,hf⟩ := hd
  obtain ⟨h1,h2⟩ := u8T_ok n t fuel _ _ k hk hf
  obtain ⟨ns,e,hb⟩ := u8s_list h1
  have e' : cs = (ns.map (Value.int .u8)).toArray := by
    apply Array.ext'
    simpa [Value.cells] using e
  subst e'
  refine ⟨ns,?_,hb,argOk_bytes w ns⟩
  simpa [Value.cells] using h2
end
end Go.Am
set_option linter.unusedVariables false
namespace Go.Am
open Go.RowKit
theorem laid_u8 {H : Type} {enc : TypeId × Value → H} {P : Program} {w : World} {base : Nat} {sp : Nat → Bool} {held : Bool} {n : Nat} {e t : TypeId} {fuel : Nat} {cs : List Value} {l : List Int} {p : List MemPlace}
    (ht : P.underlying t = some (.array n e)) (he : P.underlying e = some (.int .u8)) (hc : P.cellsOf e = 1) (hct : P.cellsOf t = n)
    (hd : DataW.trod enc P w base sp held fuel t cs = some (.agg (l.map fun x => .lit (.int .u8 x)),p)) : cs = l.map (Value.int .u8) := by
  obtain ⟨xs,m,_,hx1,hlen,hn,hel⟩ := DataW.trod_array ht hd
  simp only [Prod.mk.injEq,DataW.agg.injEq] at hx1
  have hl : l.length = n := by
    have := congrArg List.length hx1.1
    simpa [hn] using this
  rw [hct] at hlen
  apply List.ext_getElem (by simp [hlen,hl])
  intro i h1 h2
  have hi : i < n := by omega
  have h := hel i hi
  rw [hc,Nat.mul_one,List.getElem?_eq_getElem (by omega)] at h
  obtain ⟨k,e1,e2,_⟩ := DataW.trod_int he h
  have e3 : (xs.map (·.1))[i]? = (l.map fun x => DataW.lit (Lit.int .u8 x))[i]? := by rw [hx1.1]
  rw [List.getElem?_map,List.getElem?_map,List.getElem?_eq_getElem (by omega),List.getElem?_eq_getElem (by omega),e2] at e3
  simp only [Option.map_some,Option.some.injEq,DataW.lit.injEq,Lit.int.injEq,true_and] at e3
  have e4 : cs[i]? = some (.int .u8 k) := by
    have := congrArg (fun q : List Value => q[0]?) e1
    simp only [List.getElem?_take,List.getElem?_drop,Nat.add_zero,Nat.zero_lt_one,if_true] at this
    simpa using this
  rw [List.getElem?_eq_getElem h1] at e4
  rw [Option.some.inj e4,List.getElem_map,e3]
theorem laid_pick {P : Program} {w : World} : ∀ {laid : List (String × DataW Unit)} {ps : List MemPlace},DataW.LaidVars P w laid ps → ∀ {k : Nat} {n : String} {d : DataW Unit},laid[k]? = some (n,d) →
    ∃ g t cs fuel p,P.globalNamed n = some g ∧ (P.globals[g]?).map (·.type) = some t ∧ w.var? P n = some cs ∧ DataW.trod (fun _ => ()) P w 0 (fun _ => true) false fuel t cs.toList = some (d,p)
  | [],_,_,k,n,d,hk => by simp at hk
  | (n0,d0) :: r,ps,h,k,n,d,hk => by
    obtain ⟨g,t,cs,fuel,p,q,h1,h2,h3,h4,h5,_⟩ := h
    cases k with
    | zero => cases hk; exact ⟨g,t,cs,fuel,p,h1,h2,h3,h4⟩
    | succ k => exact laid_pick h5 (by simpa using hk)
theorem laid_at {P : Program} {w : World} {laid : List (String × DataW Unit)} (h : laidMetH P laid w) (hn : (laid.all fun x => x.2.handleName?.isNone) = true) {k : Nat} {nm : String} {l : List Int} (hk : laid[k]? = some (nm,.agg (l.map fun x => .lit (.int .u8 x))))
    {g n : Nat} {t e : TypeId} (hg : P.globalNamed nm = some g) (hty : (P.globals[g]?).map (·.type) = some t) (ht : P.underlying t = some (.array n e)) (he : P.underlying e = some (.int .u8)) (hc : P.cellsOf e = 1) (hct : P.cellsOf t = n) (ρ : PM) :
    CellsAt ρ w (l.map (AV.int .u8)) ⟨g,0,0,false⟩ := by
  rw [MakeChecks.laidMetH_plain _ _ _ hn] at h
  obtain ⟨ps,hv,_⟩ := h
  obtain ⟨g',t',cs,fuel,p,h1,h2,h3,h4⟩ := laid_pick hv hk
  obtain rfl := Option.some.inj (hg.symm.trans h1)
  obtain rfl := Option.some.inj (hty.symm.trans h2)
  have hcs := laid_u8 ht he hc hct h4
  refine ⟨fun j c hj => ?_⟩
  rw [List.getElem?_map] at hj
  obtain ⟨x,hx,rfl⟩ := Option.map_eq_some_iff.1 hj
  refine ⟨.int .u8 x,?_,.int _ _⟩
  have := World.var?_cell hg h3 (0 + j)
  rw [this,Nat.zero_add,← Array.getElem?_toList,hcs,List.getElem?_map,hx]; rfl
end Go.Am
