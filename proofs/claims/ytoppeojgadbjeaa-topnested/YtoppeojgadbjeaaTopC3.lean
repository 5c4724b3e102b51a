/-
  What functions of chapter 01 compute, 3: sills are found: none is lower than its place, and those of the last row are as high as theirs.
-/
import Derived.Test.YtoppeojgadbjeaaTopC2
set_option linter.unusedVariables false
set_option linter.unusedSimpArgs false
set_option maxRecDepth 10000
namespace Go.Am.Top
open Go.Am.G
abbrev zI : List Int := List.replicate 37 0
def MS (r c : Nat) (nl ex : Bool) (sz : Nat) (hs out : List Int) (D : List Bool) : LMem :=
  [⟨SH r c nl ex sz hs,true⟩,⟨zI.map (LV.int .i64),true⟩,⟨out.map (LV.int .i64),true⟩,⟨D.map LV.bool,true⟩]
def okA (hs : List Int) (c i : Nat) (o : Int) : Prop := hs.getD i 0 ≤ o ∧ o ≤ 31 ∧ (hs.length ≤ i + c → o = hs.getD i 0)
structure OkO (hs : List Int) (c : Nat) (out : List Int) : Prop where
  len : out.length = 37
  val : ∀ i,i < hs.length → okA hs c i (out.getD i 0)
abbrev und (l : List Nat) : LEnv := l.map fun k => (k,LV.undef)
abbrev tl : List Nat := [70,71,72,73,74,75,76,77,78,79,80,81,82,83,84,85,86,87,88]
theorem getD_at {l : List Int} {i : Nat} (h : i < l.length) : l.getD i 0 = l[i] := by simp [h]
theorem bool_at (l : List Bool) (i : Nat) (h : i < l.length) : (l.map LV.bool)[i]? = some (.bool l[i]) := by rw [List.getElem?_map,List.getElem?_eq_getElem h]; rfl
theorem set_bool (l : List Bool) (i : Nat) (x : Bool) (h : i < l.length) : (l.map LV.bool).take i ++ [.bool x] ++ (l.map LV.bool).drop (i + 1) = (l.set i x).map LV.bool := by
  rw [← List.map_take,← List.map_drop,List.append_assoc,List.set_eq_take_append_cons_drop,if_pos h]
  simp
theorem getD_set {l : List Int} {i j : Nat} {v : Int} (h : i < l.length) : (l.set i v).getD j 0 = if i = j then v else l.getD j 0 := by
  simp only [List.getD_eq_getElem?_getD,List.getElem?_set]
  by_cases c : i = j
  · subst c; simp [h]
  · simp [c]
theorem trim_4 (vs : List LV) (a b c d : LBlk) : trim 4 vs [a,b,c,d] = [a,b,c,d] := trim_le 4 vs _ (by simp)
theorem trim_5 (vs : List LV) (a b c d e : LBlk) : trim 5 vs [a,b,c,d,e] = [a,b,c,d,e] := trim_le 5 vs _ (by simp)
theorem trim_6 (vs : List LV) (a b c d e f : LBlk) : trim 6 vs [a,b,c,d,e,f] = [a,b,c,d,e,f] := trim_le 6 vs _ (by simp)
theorem sl0_loop {r c : Nat} {hs : List Int} (S : Sho r c hs) (nl ex : Bool) (sz : Nat) (D : List Bool) (n : Nat) : ∀ (k : Nat) (out : List Int),k + n = hs.length → out.length = 37 → (∀ i,i < k → okA hs c i (out.getD i 0)) →
    ∃ out',exF LP ebb_Shore_sills.L0 ((1,.ptr 0 0 3) :: (2,.ptr 1 0 37) :: (3,.ptr 2 0 37) :: (4,.sl 3 0 hs.length hs.length 0 1 hs.length) :: (9,.undef) :: (14,.int .i64 (hs.length : Int)) :: (15,.int .i64 (k : Int)) :: und tl) (MS r c nl ex sz hs out D) =
      some (.exit 0,(1,.ptr 0 0 3) :: (2,.ptr 1 0 37) :: (3,.ptr 2 0 37) :: (4,.sl 3 0 hs.length hs.length 0 1 hs.length) :: (9,.undef) :: und tl,MS r c nl ex sz hs out' D) ∧ OkO hs c out' := by
  have hle := S.le
  have hc := S.cb
  induction n with
  | zero =>
    intro k out hk hl ha
    refine ⟨out,?_,hl,fun i hi => ha i (by omega)⟩
    rw [ebb_Shore_sills.L0_eq]
    simp only [ebb_Shore_sills.B0,beqT,beqF,exF_seq,exF_region,exF_block,exF_cond,exF_ret,exF_exit,exF_skip,runL,wantL,stepL,evL,evC,LEnv.at,putL,loadFine,loadL,cellsAt,Trk.putNew,Trk.up,Trk.touch,Trk.gives,Trk.calm,Trk.hit,opdsOf,Trk.fresh,LEnv.keep,LEnv.ofFrom,List.map_cons,List.map_nil,nbeq,nble,nblt,ofAV,ofAVs,lenL,bin_add,bin_sub,bin_mul,bin_eql,bin_neq,bin_lss,bin_leq,bin_gtr,bin_geq,natL_nat,natL_zero,natL_one,natL_two,Nat.zero_mul,List.any_cons,List.any_nil,Bool.or_false,Bool.false_or,Bool.true_or,Bool.or_true,Bool.and_true,Bool.true_and,Bool.and_false,Bool.false_and,Bool.not_true,Bool.not_false,Nat.reduceBEq,Nat.reduceEqDiff,decide_true,decide_false,cond_true,cond_false,List.filter_nil,List.filter_cons,Nat.reduceAdd,Nat.reduceLeDiff,reduceCtorEq,List.length_nil,List.length_cons,Nat.mul_one,if_true,if_false,Bool.false_eq_true,eq_self,and_true,true_and,retL,resultsL,resAllL,resOfL,List.append_nil,List.nil_append,List.cons_append,true_or,or_true,false_or,or_false,false_and,and_false,not_true_eq_false,not_false_eq_true,ne_eq,unL,trim_nil,views_pures,LV.pures,LV.pure,freeze,Nat.reduceDiv,Int.reduceEq,Int.reduceLT,Int.reduceLE,Int.natCast_zero,LV.cells,allocL,List.getElem?_cons_zero,List.getElem?_cons_succ,storeL,spliceL,List.take_zero,List.take_succ_cons,List.drop_zero,List.drop_succ_cons,List.drop_nil,List.take_nil,Nat.le_refl,Nat.reduceMul,List.set_cons_zero,List.set_cons_succ,LV.scalar,List.all_cons,List.all_nil,Nat.lt_add_one,Nat.zero_lt_one,Nat.reduceLT,Nat.lt_irrefl,fillL,List.length_append,foldIntL,kind_beq,pures_int,solids_int,plains_int,unders_int,scalars_int,show ¬ ((k : Int) < (hs.length : Int)) by omega,und,tl]
  | succ n ih =>
    intro k out hk hl ha
    have h2 : k < hs.length := by omega
    have hkl : (k : Int) < (hs.length : Int) := by omega
    have hat := S.at h2
    have hr := fun m => river_c r c hs nl ex sz m
    have w5 : IntKind.i64.wrap ((hs.length : Int) - (c : Int)) = (hs.length : Int) - (c : Int) := wrap_in (by omega)
    have wk := wrap_succ (show k + 1 < 9223372036854775808 by omega)
    have hlen : (out.map (LV.int .i64)).length = 37 := by rw [List.length_map,hl]
    have hst := set_int .i64 out k 31 (by omega)
    by_cases h : hs.length ≤ k + c
    · have hl2 : ((out.set k 31).set k hs[k]).length = 37 := by simp [hl]
      obtain ⟨out',h1,h3⟩ := ih (k + 1) ((out.set k 31).set k hs[k]) (by omega) hl2 fun i hi => by
        rw [getD_set (by simp [hl]; omega),getD_set (by omega)]
        by_cases e : k = i
        · subst e
          rw [if_pos rfl]
          exact ⟨by rw [getD_at h2]; omega,by omega,fun _ => (getD_at h2).symm⟩
        · rw [if_neg e,if_neg e]; exact ha i (by omega)
      refine ⟨out',?_,h3⟩
      have hlen2 : ((out.set k 31).map (LV.int .i64)).length = 37 := by simp [hl]
      have hst2 := set_int .i64 (out.set k 31) k hs[k] (by simp [hl]; omega)
      rw [ebb_Shore_sills.L0_eq]
      simp only [und,tl,List.map_cons,List.map_nil] at h1 ⊢
      simp only [MS] at h1 ⊢
      simp only [ebb_Shore_sills.B0,beqT,beqF,exF_seq,exF_region,exF_block,exF_cond,exF_ret,exF_exit,exF_skip,runL,wantL,stepL,evL,evC,LEnv.at,putL,loadFine,loadL,cellsAt,Trk.putNew,Trk.up,Trk.touch,Trk.gives,Trk.calm,Trk.hit,opdsOf,Trk.fresh,LEnv.keep,LEnv.ofFrom,List.map_cons,List.map_nil,nbeq,nble,nblt,ofAV,ofAVs,lenL,bin_add,bin_sub,bin_mul,bin_eql,bin_neq,bin_lss,bin_leq,bin_gtr,bin_geq,natL_nat,natL_zero,natL_one,natL_two,Nat.zero_mul,List.any_cons,List.any_nil,Bool.or_false,Bool.false_or,Bool.true_or,Bool.or_true,Bool.and_true,Bool.true_and,Bool.and_false,Bool.false_and,Bool.not_true,Bool.not_false,Nat.reduceBEq,Nat.reduceEqDiff,decide_true,decide_false,cond_true,cond_false,List.filter_nil,List.filter_cons,Nat.reduceAdd,Nat.reduceLeDiff,reduceCtorEq,List.length_nil,List.length_cons,Nat.mul_one,if_true,if_false,Bool.false_eq_true,eq_self,and_true,true_and,retL,resultsL,resAllL,resOfL,List.append_nil,List.nil_append,List.cons_append,true_or,or_true,false_or,or_false,false_and,and_false,not_true_eq_false,not_false_eq_true,ne_eq,unL,trim_nil,views_pures,LV.pures,LV.pure,freeze,Nat.reduceDiv,Int.reduceEq,Int.reduceLT,Int.reduceLE,Int.natCast_zero,LV.cells,allocL,List.getElem?_cons_zero,List.getElem?_cons_succ,storeL,spliceL,List.take_zero,List.take_succ_cons,List.drop_zero,List.drop_succ_cons,List.drop_nil,List.take_nil,Nat.le_refl,Nat.reduceMul,List.set_cons_zero,List.set_cons_succ,LV.scalar,List.all_cons,List.all_nil,Nat.lt_add_one,Nat.zero_lt_one,Nat.reduceLT,Nat.lt_irrefl,fillL,List.length_append,foldIntL,kind_beq,pures_int,solids_int,plains_int,unders_int,scalars_int,hkl,h2,hlen,hlen2,show k < 37 by omega,show k + 1 ≤ 37 by omega,Nat.zero_add,hst,hst2,hr,w5,show (k : Int) ≥ (hs.length : Int) - (c : Int) by omega,show (hs.length : Int) - (c : Int) ≤ (k : Int) by omega,int_at _ _ _ h2,wk,trim_4,trim_5,h1]
    · have hl2 : (out.set k 31).length = 37 := by simp [hl]
      obtain ⟨out',h1,h3⟩ := ih (k + 1) (out.set k 31) (by omega) hl2 fun i hi => by
        rw [getD_set (by omega)]
        by_cases e : k = i
        · subst e
          rw [if_pos rfl]
          exact ⟨by rw [getD_at h2]; omega,by omega,fun _ => by omega⟩
        · rw [if_neg e]; exact ha i (by omega)
      refine ⟨out',?_,h3⟩
      rw [ebb_Shore_sills.L0_eq]
      simp only [und,tl,List.map_cons,List.map_nil] at h1 ⊢
      simp only [MS] at h1 ⊢
      simp only [ebb_Shore_sills.B0,beqT,beqF,exF_seq,exF_region,exF_block,exF_cond,exF_ret,exF_exit,exF_skip,runL,wantL,stepL,evL,evC,LEnv.at,putL,loadFine,loadL,cellsAt,Trk.putNew,Trk.up,Trk.touch,Trk.gives,Trk.calm,Trk.hit,opdsOf,Trk.fresh,LEnv.keep,LEnv.ofFrom,List.map_cons,List.map_nil,nbeq,nble,nblt,ofAV,ofAVs,lenL,bin_add,bin_sub,bin_mul,bin_eql,bin_neq,bin_lss,bin_leq,bin_gtr,bin_geq,natL_nat,natL_zero,natL_one,natL_two,Nat.zero_mul,List.any_cons,List.any_nil,Bool.or_false,Bool.false_or,Bool.true_or,Bool.or_true,Bool.and_true,Bool.true_and,Bool.and_false,Bool.false_and,Bool.not_true,Bool.not_false,Nat.reduceBEq,Nat.reduceEqDiff,decide_true,decide_false,cond_true,cond_false,List.filter_nil,List.filter_cons,Nat.reduceAdd,Nat.reduceLeDiff,reduceCtorEq,List.length_nil,List.length_cons,Nat.mul_one,if_true,if_false,Bool.false_eq_true,eq_self,and_true,true_and,retL,resultsL,resAllL,resOfL,List.append_nil,List.nil_append,List.cons_append,true_or,or_true,false_or,or_false,false_and,and_false,not_true_eq_false,not_false_eq_true,ne_eq,unL,trim_nil,views_pures,LV.pures,LV.pure,freeze,Nat.reduceDiv,Int.reduceEq,Int.reduceLT,Int.reduceLE,Int.natCast_zero,LV.cells,allocL,List.getElem?_cons_zero,List.getElem?_cons_succ,storeL,spliceL,List.take_zero,List.take_succ_cons,List.drop_zero,List.drop_succ_cons,List.drop_nil,List.take_nil,Nat.le_refl,Nat.reduceMul,List.set_cons_zero,List.set_cons_succ,LV.scalar,List.all_cons,List.all_nil,Nat.lt_add_one,Nat.zero_lt_one,Nat.reduceLT,Nat.lt_irrefl,fillL,List.length_append,foldIntL,kind_beq,pures_int,solids_int,plains_int,unders_int,scalars_int,hkl,h2,hlen,show k < 37 by omega,show k + 1 ≤ 37 by omega,Nat.zero_add,hst,hr,w5,show ¬ (k : Int) ≥ (hs.length : Int) - (c : Int) by omega,show ¬ (hs.length : Int) - (c : Int) ≤ (k : Int) by omega,wk,trim_4,trim_5,h1]
def okN (D : List Bool) (x : Int) : Prop := x = -1 ∨ (0 ≤ x ∧ x.toNat < D.length ∧ D.getD x.toNat true = false)
abbrev ME (r c : Nat) (nl ex : Bool) (sz : Nat) (hs out : List Int) (D : List Bool) (x : Int) : LMem := MS r c nl ex sz hs out D ++ [⟨[.int .i64 x],true⟩]
theorem sl1_loop {r c : Nat} {hs : List Int} (nl ex : Bool) (sz : Nat) (out : List Int) (D : List Bool) (hN : hs.length ≤ 36) (hD : D.length = hs.length) (ho : out.length = 37) (t : Nat) (n : Nat) : ∀ (k : Nat) (x : Int),k + n = hs.length → okN D x → (x = -1 → ∀ i,i < k → D.getD i true = true) →
    ∃ x',exF LP ebb_Shore_sills.L1 ((1,.ptr 0 0 3) :: (2,.ptr 1 0 37) :: (3,.ptr 2 0 37) :: (4,.sl 3 0 hs.length hs.length 0 1 hs.length) :: (6,.ptr 4 0 1) :: (9,.undef) :: (36,.int .i64 (hs.length : Int)) :: (37,.int .i64 (t : Int)) :: (39,.sl 3 0 hs.length hs.length 0 1 hs.length) :: (40,.int .i64 (hs.length : Int)) :: (41,.int .i64 (k : Int)) :: und tl) (ME r c nl ex sz hs out D x) =
      some (.exit 4,(1,.ptr 0 0 3) :: (2,.ptr 1 0 37) :: (3,.ptr 2 0 37) :: (4,.sl 3 0 hs.length hs.length 0 1 hs.length) :: (6,.ptr 4 0 1) :: (9,.undef) :: (36,.int .i64 (hs.length : Int)) :: (37,.int .i64 (t : Int)) :: und tl,ME r c nl ex sz hs out D x') ∧ okN D x' ∧ (x' = -1 → ∀ i,i < hs.length → D.getD i true = true) := by
  induction n with
  | zero =>
    intro k x hk hx ha
    refine ⟨x,?_,hx,fun h i hi => ha h i (by omega)⟩
    rw [ebb_Shore_sills.L1_eq]
    simp only [ebb_Shore_sills.B1,beqT,beqF,exF_seq,exF_region,exF_block,exF_cond,exF_ret,exF_exit,exF_skip,runL,wantL,stepL,evL,evC,LEnv.at,putL,loadFine,loadL,cellsAt,Trk.putNew,Trk.up,Trk.touch,Trk.gives,Trk.calm,Trk.hit,opdsOf,Trk.fresh,LEnv.keep,LEnv.ofFrom,List.map_cons,List.map_nil,nbeq,nble,nblt,ofAV,ofAVs,lenL,bin_add,bin_sub,bin_mul,bin_eql,bin_neq,bin_lss,bin_leq,bin_gtr,bin_geq,natL_nat,natL_zero,natL_one,natL_two,Nat.zero_mul,List.any_cons,List.any_nil,Bool.or_false,Bool.false_or,Bool.true_or,Bool.or_true,Bool.and_true,Bool.true_and,Bool.and_false,Bool.false_and,Bool.not_true,Bool.not_false,Nat.reduceBEq,Nat.reduceEqDiff,decide_true,decide_false,cond_true,cond_false,List.filter_nil,List.filter_cons,Nat.reduceAdd,Nat.reduceLeDiff,reduceCtorEq,List.length_nil,List.length_cons,Nat.mul_one,if_true,if_false,Bool.false_eq_true,eq_self,and_true,true_and,retL,resultsL,resAllL,resOfL,List.append_nil,List.nil_append,List.cons_append,true_or,or_true,false_or,or_false,false_and,and_false,not_true_eq_false,not_false_eq_true,ne_eq,unL,trim_nil,views_pures,LV.pures,LV.pure,freeze,Nat.reduceDiv,Int.reduceEq,Int.reduceLT,Int.reduceLE,Int.natCast_zero,LV.cells,allocL,List.getElem?_cons_zero,List.getElem?_cons_succ,storeL,spliceL,List.take_zero,List.take_succ_cons,List.drop_zero,List.drop_succ_cons,List.drop_nil,List.take_nil,Nat.le_refl,Nat.reduceMul,List.set_cons_zero,List.set_cons_succ,LV.scalar,List.all_cons,List.all_nil,Nat.lt_add_one,Nat.zero_lt_one,Nat.reduceLT,Nat.lt_irrefl,fillL,List.length_append,foldIntL,kind_beq,pures_int,solids_int,plains_int,unders_int,scalars_int,show ¬ ((k : Int) < (hs.length : Int)) by omega,und,tl]
  | succ n ih =>
    intro k x hk hx ha
    have h2 : k < hs.length := by omega
    have hkD : k < D.length := by omega
    have hkl : (k : Int) < (hs.length : Int) := by omega
    have wk := wrap_succ (show k + 1 < 9223372036854775808 by omega)
    have hlen : (out.map (LV.int .i64)).length = 37 := by rw [List.length_map,ho]
    have hlD : (D.map LV.bool).length = hs.length := by rw [List.length_map,hD]
    have hat := bool_at D k hkD
    have hok := int_at .i64 out k (by omega)
    cases hb : D[k]
    · have hb' : D.getD k true = false := by simp [hkD,hb]
      rw [hb] at hat
      by_cases hx1 : x = -1
      · subst hx1
        obtain ⟨x',h1,h3⟩ := ih (k + 1) (k : Int) (by omega) (.inr ⟨by omega,by simpa using hkD,by simpa using hb'⟩) (by omega)
        refine ⟨x',?_,h3⟩
        rw [ebb_Shore_sills.L1_eq]
        simp only [und,tl,List.map_cons,List.map_nil] at h1 ⊢
        simp only [ME,MS,List.cons_append,List.nil_append] at h1 ⊢
        simp only [ebb_Shore_sills.B1,beqT,beqF,exF_seq,exF_region,exF_block,exF_cond,exF_ret,exF_exit,exF_skip,runL,wantL,stepL,evL,evC,LEnv.at,putL,loadFine,loadL,cellsAt,Trk.putNew,Trk.up,Trk.touch,Trk.gives,Trk.calm,Trk.hit,opdsOf,Trk.fresh,LEnv.keep,LEnv.ofFrom,List.map_cons,List.map_nil,nbeq,nble,nblt,ofAV,ofAVs,lenL,bin_add,bin_sub,bin_mul,bin_eql,bin_neq,bin_lss,bin_leq,bin_gtr,bin_geq,natL_nat,natL_zero,natL_one,natL_two,Nat.zero_mul,List.any_cons,List.any_nil,Bool.or_false,Bool.false_or,Bool.true_or,Bool.or_true,Bool.and_true,Bool.true_and,Bool.and_false,Bool.false_and,Bool.not_true,Bool.not_false,Nat.reduceBEq,Nat.reduceEqDiff,decide_true,decide_false,cond_true,cond_false,List.filter_nil,List.filter_cons,Nat.reduceAdd,Nat.reduceLeDiff,reduceCtorEq,List.length_nil,List.length_cons,Nat.mul_one,if_true,if_false,Bool.false_eq_true,eq_self,and_true,true_and,retL,resultsL,resAllL,resOfL,List.append_nil,List.nil_append,List.cons_append,true_or,or_true,false_or,or_false,false_and,and_false,not_true_eq_false,not_false_eq_true,ne_eq,unL,trim_nil,views_pures,LV.pures,LV.pure,freeze,Nat.reduceDiv,Int.reduceEq,Int.reduceLT,Int.reduceLE,Int.natCast_zero,LV.cells,allocL,List.getElem?_cons_zero,List.getElem?_cons_succ,storeL,spliceL,List.take_zero,List.take_succ_cons,List.drop_zero,List.drop_succ_cons,List.drop_nil,List.take_nil,Nat.le_refl,Nat.reduceMul,List.set_cons_zero,List.set_cons_succ,LV.scalar,List.all_cons,List.all_nil,Nat.lt_add_one,Nat.zero_lt_one,Nat.reduceLT,Nat.lt_irrefl,fillL,List.length_append,foldIntL,kind_beq,pures_int,solids_int,plains_int,unders_int,scalars_int,hkl,h2,hlD,Nat.zero_add,hat,show ((-1 : Int) < 0) by omega,wk,trim_4,trim_5,h1]
      · have hx2 : 0 ≤ x ∧ x.toNat < D.length ∧ D.getD x.toNat true = false := by
          rcases hx with h | h
          · exact absurd h hx1
          · exact h
        obtain ⟨y,rfl⟩ : ∃ y : Nat,x = (y : Int) := ⟨x.toNat,by omega⟩
        have hy : y < D.length := by simpa using hx2.2.1
        have hoy := int_at .i64 out y (by omega)
        by_cases hlt : out[k] < out[y]
        · obtain ⟨x',h1,h3⟩ := ih (k + 1) (k : Int) (by omega) (.inr ⟨by omega,by simpa using hkD,by simpa using hb'⟩) (by omega)
          refine ⟨x',?_,h3⟩
          rw [ebb_Shore_sills.L1_eq]
          simp only [und,tl,List.map_cons,List.map_nil] at h1 ⊢
          simp only [ME,MS,List.cons_append,List.nil_append] at h1 ⊢
          simp only [ebb_Shore_sills.B1,beqT,beqF,exF_seq,exF_region,exF_block,exF_cond,exF_ret,exF_exit,exF_skip,runL,wantL,stepL,evL,evC,LEnv.at,putL,loadFine,loadL,cellsAt,Trk.putNew,Trk.up,Trk.touch,Trk.gives,Trk.calm,Trk.hit,opdsOf,Trk.fresh,LEnv.keep,LEnv.ofFrom,List.map_cons,List.map_nil,nbeq,nble,nblt,ofAV,ofAVs,lenL,bin_add,bin_sub,bin_mul,bin_eql,bin_neq,bin_lss,bin_leq,bin_gtr,bin_geq,natL_nat,natL_zero,natL_one,natL_two,Nat.zero_mul,List.any_cons,List.any_nil,Bool.or_false,Bool.false_or,Bool.true_or,Bool.or_true,Bool.and_true,Bool.true_and,Bool.and_false,Bool.false_and,Bool.not_true,Bool.not_false,Nat.reduceBEq,Nat.reduceEqDiff,decide_true,decide_false,cond_true,cond_false,List.filter_nil,List.filter_cons,Nat.reduceAdd,Nat.reduceLeDiff,reduceCtorEq,List.length_nil,List.length_cons,Nat.mul_one,if_true,if_false,Bool.false_eq_true,eq_self,and_true,true_and,retL,resultsL,resAllL,resOfL,List.append_nil,List.nil_append,List.cons_append,true_or,or_true,false_or,or_false,false_and,and_false,not_true_eq_false,not_false_eq_true,ne_eq,unL,trim_nil,views_pures,LV.pures,LV.pure,freeze,Nat.reduceDiv,Int.reduceEq,Int.reduceLT,Int.reduceLE,Int.natCast_zero,LV.cells,allocL,List.getElem?_cons_zero,List.getElem?_cons_succ,storeL,spliceL,List.take_zero,List.take_succ_cons,List.drop_zero,List.drop_succ_cons,List.drop_nil,List.take_nil,Nat.le_refl,Nat.reduceMul,List.set_cons_zero,List.set_cons_succ,LV.scalar,List.all_cons,List.all_nil,Nat.lt_add_one,Nat.zero_lt_one,Nat.reduceLT,Nat.lt_irrefl,fillL,List.length_append,foldIntL,kind_beq,pures_int,solids_int,plains_int,unders_int,scalars_int,hkl,h2,hlD,hlen,Nat.zero_add,hat,show ¬ ((y : Int) < 0) by omega,show k < 37 by omega,show y < 37 by omega,hok,hoy,hlt,wk,trim_4,trim_5,h1]
        · obtain ⟨x',h1,h3⟩ := ih (k + 1) (y : Int) (by omega) hx (by omega)
          refine ⟨x',?_,h3⟩
          rw [ebb_Shore_sills.L1_eq]
          simp only [und,tl,List.map_cons,List.map_nil] at h1 ⊢
          simp only [ME,MS,List.cons_append,List.nil_append] at h1 ⊢
          simp only [ebb_Shore_sills.B1,beqT,beqF,exF_seq,exF_region,exF_block,exF_cond,exF_ret,exF_exit,exF_skip,runL,wantL,stepL,evL,evC,LEnv.at,putL,loadFine,loadL,cellsAt,Trk.putNew,Trk.up,Trk.touch,Trk.gives,Trk.calm,Trk.hit,opdsOf,Trk.fresh,LEnv.keep,LEnv.ofFrom,List.map_cons,List.map_nil,nbeq,nble,nblt,ofAV,ofAVs,lenL,bin_add,bin_sub,bin_mul,bin_eql,bin_neq,bin_lss,bin_leq,bin_gtr,bin_geq,natL_nat,natL_zero,natL_one,natL_two,Nat.zero_mul,List.any_cons,List.any_nil,Bool.or_false,Bool.false_or,Bool.true_or,Bool.or_true,Bool.and_true,Bool.true_and,Bool.and_false,Bool.false_and,Bool.not_true,Bool.not_false,Nat.reduceBEq,Nat.reduceEqDiff,decide_true,decide_false,cond_true,cond_false,List.filter_nil,List.filter_cons,Nat.reduceAdd,Nat.reduceLeDiff,reduceCtorEq,List.length_nil,List.length_cons,Nat.mul_one,if_true,if_false,Bool.false_eq_true,eq_self,and_true,true_and,retL,resultsL,resAllL,resOfL,List.append_nil,List.nil_append,List.cons_append,true_or,or_true,false_or,or_false,false_and,and_false,not_true_eq_false,not_false_eq_true,ne_eq,unL,trim_nil,views_pures,LV.pures,LV.pure,freeze,Nat.reduceDiv,Int.reduceEq,Int.reduceLT,Int.reduceLE,Int.natCast_zero,LV.cells,allocL,List.getElem?_cons_zero,List.getElem?_cons_succ,storeL,spliceL,List.take_zero,List.take_succ_cons,List.drop_zero,List.drop_succ_cons,List.drop_nil,List.take_nil,Nat.le_refl,Nat.reduceMul,List.set_cons_zero,List.set_cons_succ,LV.scalar,List.all_cons,List.all_nil,Nat.lt_add_one,Nat.zero_lt_one,Nat.reduceLT,Nat.lt_irrefl,fillL,List.length_append,foldIntL,kind_beq,pures_int,solids_int,plains_int,unders_int,scalars_int,hkl,h2,hlD,hlen,Nat.zero_add,hat,show ¬ ((y : Int) < 0) by omega,show k < 37 by omega,show y < 37 by omega,hok,hoy,hlt,wk,trim_4,trim_5,h1]
    · have hb' : D.getD k true = true := by simp [hkD,hb]
      rw [hb] at hat
      obtain ⟨x',h1,h3⟩ := ih (k + 1) x (by omega) hx fun h i hi => by
        by_cases e : i = k
        · subst e; exact hb'
        · exact ha h i (by omega)
      refine ⟨x',?_,h3⟩
      rw [ebb_Shore_sills.L1_eq]
      simp only [und,tl,List.map_cons,List.map_nil] at h1 ⊢
      simp only [ME,MS,List.cons_append,List.nil_append] at h1 ⊢
      simp only [ebb_Shore_sills.B1,beqT,beqF,exF_seq,exF_region,exF_block,exF_cond,exF_ret,exF_exit,exF_skip,runL,wantL,stepL,evL,evC,LEnv.at,putL,loadFine,loadL,cellsAt,Trk.putNew,Trk.up,Trk.touch,Trk.gives,Trk.calm,Trk.hit,opdsOf,Trk.fresh,LEnv.keep,LEnv.ofFrom,List.map_cons,List.map_nil,nbeq,nble,nblt,ofAV,ofAVs,lenL,bin_add,bin_sub,bin_mul,bin_eql,bin_neq,bin_lss,bin_leq,bin_gtr,bin_geq,natL_nat,natL_zero,natL_one,natL_two,Nat.zero_mul,List.any_cons,List.any_nil,Bool.or_false,Bool.false_or,Bool.true_or,Bool.or_true,Bool.and_true,Bool.true_and,Bool.and_false,Bool.false_and,Bool.not_true,Bool.not_false,Nat.reduceBEq,Nat.reduceEqDiff,decide_true,decide_false,cond_true,cond_false,List.filter_nil,List.filter_cons,Nat.reduceAdd,Nat.reduceLeDiff,reduceCtorEq,List.length_nil,List.length_cons,Nat.mul_one,if_true,if_false,Bool.false_eq_true,eq_self,and_true,true_and,retL,resultsL,resAllL,resOfL,List.append_nil,List.nil_append,List.cons_append,true_or,or_true,false_or,or_false,false_and,and_false,not_true_eq_false,not_false_eq_true,ne_eq,unL,trim_nil,views_pures,LV.pures,LV.pure,freeze,Nat.reduceDiv,Int.reduceEq,Int.reduceLT,Int.reduceLE,Int.natCast_zero,LV.cells,allocL,List.getElem?_cons_zero,List.getElem?_cons_succ,storeL,spliceL,List.take_zero,List.take_succ_cons,List.drop_zero,List.drop_succ_cons,List.drop_nil,List.take_nil,Nat.le_refl,Nat.reduceMul,List.set_cons_zero,List.set_cons_succ,LV.scalar,List.all_cons,List.all_nil,Nat.lt_add_one,Nat.zero_lt_one,Nat.reduceLT,Nat.lt_irrefl,fillL,List.length_append,foldIntL,kind_beq,pures_int,solids_int,plains_int,unders_int,scalars_int,hkl,h2,hlD,Nat.zero_add,hat,wk,trim_4,trim_5,h1]
end Go.Am.Top
