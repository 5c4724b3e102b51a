import Derived.Test.YtoppeojgadbjeaaTopP3
set_option linter.unusedVariables false
set_option linter.unusedSimpArgs false
set_option maxRecDepth 10000
namespace Go.Am.Top
open Go.Am.G
abbrev zI : List Int := List.replicate 37 0
def MS (r c : Nat) (nl ex : Bool) (sz : Nat) (hs out : List Int) (D : List Bool) : LMem :=
  [⟨SH r c nl ex sz hs,true⟩,⟨zI.map (LV.int .i64),true⟩,⟨out.map (LV.int .i64),true⟩,⟨D.map LV.bool,true⟩]
def okA (hs : List Int) (c i : Nat) (o : Int) : Prop := hs.getD i 0 ≤ o ∧ o ≤ 31 ∧ (hs.length ≤ i + c → o = hs.getD i 0)
structure OkO (hs : List Int) (c : Nat) (out : List Int) : Prop where
  len : out.length = 37
  val : ∀ i,i < hs.length → okA hs c i (out.getD i 0)
abbrev und (l : List Nat) : LEnv := l.map fun k => (k,LV.undef)
abbrev tl : List Nat := [70,71,72,73,74,75,76,77,78,79,80,81,82,83,84,85,86,87,88]
theorem getD_at {l : List Int} {i : Nat} (h : i < l.length) : l.getD i 0 = l[i] := by simp [h]
theorem bool_at (l : List Bool) (i : Nat) (h : i < l.length) : (l.map LV.bool)[i]? = some (.bool l[i]) := by rw [List.getElem?_map,List.getElem?_eq_getElem h]; rfl
theorem set_bool (l : List Bool) (i : Nat) (x : Bool) (h : i < l.length) : (l.map LV.bool).take i ++ [.bool x] ++ (l.map LV.bool).drop (i + 1) = (l.set i x).map LV.bool := by
  rw [← List.map_take,← List.map_drop,List.append_assoc,List.set_eq_take_append_cons_drop,if_pos h]
  simp
theorem getD_set {l : List Int} {i j : Nat} {v : Int} (h : i < l.length) : (l.set i v).getD j 0 = if i = j then v else l.getD j 0 := by
  simp only [List.getD_eq_getElem?_getD,List.getElem?_set]
  by_cases c : i = j
  · subst c; simp [h]
  · simp [c]
theorem trim_4 (vs : List LV) (a b c d : LBlk) : trim 4 vs [a,b,c,d] = [a,b,c,d] := trim_le 4 vs _ (by simp)
theorem trim_5 (vs : List LV) (a b c d e : LBlk) : trim 5 vs [a,b,c,d,e] = [a,b,c,d,e] := trim_le 5 vs _ (by simp)
theorem trim_6 (vs : List LV) (a b c d e f : LBlk) : trim 6 vs [a,b,c,d,e,f] = [a,b,c,d,e,f] := trim_le 6 vs _ (by simp)
theorem sl0_loop {r c : Nat} {hs : List Int} (S : Sho r c hs) (nl ex : Bool) (sz : Nat) (D : List Bool) (n : Nat) : ∀ (k : Nat) (out : List Int),k + n = hs.length → out.length = 37 → (∀ i,i < k → okA hs c i (out.getD i 0)) →
    ∃ out',exF LP ebb_Shore_sills.L0 ((1,.ptr 0 0 3) :: (2,.ptr 1 0 37) :: (3,.ptr 2 0 37) :: (4,.sl 3 0 hs.length hs.length 0 1 hs.length) :: (9,.undef) :: (14,.int .i64 (hs.length : Int)) :: (15,.int .i64 (k : Int)) :: und tl) (MS r c nl ex sz hs out D) =
      some (.exit 0,(1,.ptr 0 0 3) :: (2,.ptr 1 0 37) :: (3,.ptr 2 0 37) :: (4,.sl 3 0 hs.length hs.length 0 1 hs.length) :: (9,.undef) :: und tl,MS r c nl ex sz hs out' D) ∧ OkO hs c out' := by
  have hle := S.le
  have hc := S.cb
  induction n with
  | zero =>
    intro k out hk hl ha
    refine ⟨out,?_,hl,fun i hi => ha i (by omega)⟩
    rw [ebb_Shore_sills.L0_eq]
    simp only [ebb_Shore_sills.B0,exF_seq,exF_region,exF_cond,exF_exit,runL,wantL,stepL,evL,LEnv.at,putL,loadFine,LEnv.keep,List.map_cons,List.map_nil,nbeq,bin_lss,Nat.reduceEqDiff,decide_true,decide_false,cond_true,cond_false,eq_self,show ¬ ((k : Int) < (hs.length : Int)) by omega,und,tl]
  | succ n ih =>
    intro k out hk hl ha
    have h2 : k < hs.length := by omega
    have hkl : (k : Int) < (hs.length : Int) := by omega
    have hat := S.at h2
    have hr := fun m => river_c r c hs nl ex sz m
    have w5 : IntKind.i64.wrap ((hs.length : Int) - (c : Int)) = (hs.length : Int) - (c : Int) := wrap_in (by omega)
    have wk := wrap_succ (show k + 1 < 9223372036854775808 by omega)
    have hlen : (out.map (LV.int .i64)).length = 37 := by rw [List.length_map,hl]
    have hst := set_int .i64 out k 31 (by omega)
    by_cases h : hs.length ≤ k + c
    · have hl2 : ((out.set k 31).set k hs[k]).length = 37 := by simp [hl]
      obtain ⟨out',h1,h3⟩ := ih (k + 1) ((out.set k 31).set k hs[k]) (by omega) hl2 fun i hi => by
        rw [getD_set (by simp [hl]; omega),getD_set (by omega)]
        by_cases e : k = i
        · subst e
          rw [if_pos rfl]
          exact ⟨by rw [getD_at h2]; omega,by omega,fun _ => (getD_at h2).symm⟩
        · rw [if_neg e,if_neg e]; exact ha i (by omega)
      refine ⟨out',?_,h3⟩
      have hlen2 : ((out.set k 31).map (LV.int .i64)).length = 37 := by simp [hl]
      have hst2 := set_int .i64 (out.set k 31) k hs[k] (by simp [hl]; omega)
      rw [ebb_Shore_sills.L0_eq]
      simp only [und,tl,List.map_cons,List.map_nil] at h1 ⊢
      simp only [MS] at h1 ⊢
      simp only [ebb_Shore_sills.B0,exF_seq,exF_region,exF_block,exF_cond,exF_skip,runL,wantL,stepL,evL,evC,LEnv.at,putL,loadFine,loadL,cellsAt,Trk.putNew,Trk.up,Trk.touch,Trk.gives,Trk.calm,Trk.hit,opdsOf,Trk.fresh,LEnv.keep,List.map_cons,List.map_nil,nbeq,nble,nblt,ofAVs,bin_add,bin_sub,bin_lss,bin_geq,natL_nat,List.any_cons,List.any_nil,Bool.or_false,Bool.or_true,Bool.and_true,Bool.false_and,Bool.not_true,Bool.not_false,Nat.reduceEqDiff,decide_true,decide_false,cond_true,cond_false,List.filter_nil,List.filter_cons,Nat.reduceAdd,Nat.reduceLeDiff,reduceCtorEq,List.length_nil,List.length_cons,Nat.mul_one,if_true,eq_self,List.append_nil,List.nil_append,LV.cells,List.getElem?_cons_zero,List.getElem?_cons_succ,storeL,spliceL,List.take_zero,List.take_succ_cons,List.drop_zero,List.drop_succ_cons,List.take_nil,Nat.le_refl,List.set_cons_zero,List.set_cons_succ,LV.scalar,List.all_cons,List.all_nil,hkl,h2,hlen,hlen2,show k < 37 by omega,show k + 1 ≤ 37 by omega,Nat.zero_add,hst,hst2,hr,w5,show (k : Int) ≥ (hs.length : Int) - (c : Int) by omega,int_at _ _ _ h2,wk,trim_4,h1]
    · have hl2 : (out.set k 31).length = 37 := by simp [hl]
      obtain ⟨out',h1,h3⟩ := ih (k + 1) (out.set k 31) (by omega) hl2 fun i hi => by
        rw [getD_set (by omega)]
        by_cases e : k = i
        · subst e
          rw [if_pos rfl]
          exact ⟨by rw [getD_at h2]; omega,by omega,fun _ => by omega⟩
        · rw [if_neg e]; exact ha i (by omega)
      refine ⟨out',?_,h3⟩
      rw [ebb_Shore_sills.L0_eq]
      simp only [und,tl,List.map_cons,List.map_nil] at h1 ⊢
      simp only [MS] at h1 ⊢
      simp only [ebb_Shore_sills.B0,exF_seq,exF_region,exF_block,exF_cond,exF_skip,runL,wantL,stepL,evL,evC,LEnv.at,putL,loadFine,loadL,cellsAt,Trk.putNew,Trk.up,Trk.touch,Trk.gives,Trk.calm,Trk.hit,opdsOf,Trk.fresh,LEnv.keep,List.map_cons,List.map_nil,nbeq,nble,nblt,ofAVs,bin_add,bin_sub,bin_lss,bin_geq,natL_nat,List.any_cons,List.any_nil,Bool.or_false,Bool.or_true,Bool.and_true,Bool.false_and,Bool.not_true,Bool.not_false,Nat.reduceEqDiff,decide_true,decide_false,cond_true,cond_false,List.filter_nil,List.filter_cons,Nat.reduceAdd,Nat.reduceLeDiff,reduceCtorEq,List.length_nil,List.length_cons,Nat.mul_one,if_true,eq_self,List.append_nil,List.nil_append,LV.cells,List.getElem?_cons_zero,List.getElem?_cons_succ,storeL,spliceL,List.take_zero,List.take_succ_cons,List.drop_zero,List.drop_succ_cons,List.take_nil,Nat.le_refl,List.set_cons_zero,List.set_cons_succ,LV.scalar,List.all_cons,List.all_nil,hkl,hlen,show k < 37 by omega,show k + 1 ≤ 37 by omega,Nat.zero_add,hst,hr,w5,show ¬ (k : Int) ≥ (hs.length : Int) - (c : Int) by omega,wk,trim_4,h1]
def okN (D : List Bool) (x : Int) : Prop := x = -1 ∨ (0 ≤ x ∧ x.toNat < D.length ∧ D.getD x.toNat true = false)
abbrev ME (r c : Nat) (nl ex : Bool) (sz : Nat) (hs out : List Int) (D : List Bool) (x : Int) : LMem := MS r c nl ex sz hs out D ++ [⟨[.int .i64 x],true⟩]
theorem sl1_loop {r c : Nat} {hs : List Int} (nl ex : Bool) (sz : Nat) (out : List Int) (D : List Bool) (hN : hs.length ≤ 36) (hD : D.length = hs.length) (ho : out.length = 37) (t : Nat) (n : Nat) : ∀ (k : Nat) (x : Int),k + n = hs.length → okN D x → (x = -1 → ∀ i,i < k → D.getD i true = true) →
    ∃ x',exF LP ebb_Shore_sills.L1 ((1,.ptr 0 0 3) :: (2,.ptr 1 0 37) :: (3,.ptr 2 0 37) :: (4,.sl 3 0 hs.length hs.length 0 1 hs.length) :: (6,.ptr 4 0 1) :: (9,.undef) :: (36,.int .i64 (hs.length : Int)) :: (37,.int .i64 (t : Int)) :: (39,.sl 3 0 hs.length hs.length 0 1 hs.length) :: (40,.int .i64 (hs.length : Int)) :: (41,.int .i64 (k : Int)) :: und tl) (ME r c nl ex sz hs out D x) =
      some (.exit 4,(1,.ptr 0 0 3) :: (2,.ptr 1 0 37) :: (3,.ptr 2 0 37) :: (4,.sl 3 0 hs.length hs.length 0 1 hs.length) :: (6,.ptr 4 0 1) :: (9,.undef) :: (36,.int .i64 (hs.length : Int)) :: (37,.int .i64 (t : Int)) :: und tl,ME r c nl ex sz hs out D x') ∧ okN D x' ∧ (x' = -1 → ∀ i,i < hs.length → D.getD i true = true) := by
  induction n with
  | zero =>
    intro k x hk hx ha
    refine ⟨x,?_,hx,fun h i hi => ha h i (by omega)⟩
    rw [ebb_Shore_sills.L1_eq]
    simp only [ebb_Shore_sills.B1,exF_seq,exF_region,exF_cond,exF_exit,runL,wantL,stepL,evL,LEnv.at,putL,loadFine,LEnv.keep,List.map_cons,List.map_nil,nbeq,bin_lss,Nat.reduceEqDiff,decide_true,decide_false,cond_true,cond_false,eq_self,show ¬ ((k : Int) < (hs.length : Int)) by omega,und,tl]
  | succ n ih =>
    intro k x hk hx ha
    have h2 : k < hs.length := by omega
    have hkD : k < D.length := by omega
    have hkl : (k : Int) < (hs.length : Int) := by omega
    have wk := wrap_succ (show k + 1 < 9223372036854775808 by omega)
    have hlen : (out.map (LV.int .i64)).length = 37 := by rw [List.length_map,ho]
    have hlD : (D.map LV.bool).length = hs.length := by rw [List.length_map,hD]
    have hat := bool_at D k hkD
    have hok := int_at .i64 out k (by omega)
    cases hb : D[k]
    · have hb' : D.getD k true = false := by simp [hkD,hb]
      rw [hb] at hat
      by_cases hx1 : x = -1
      · subst hx1
        obtain ⟨x',h1,h3⟩ := ih (k + 1) (k : Int) (by omega) (.inr ⟨by omega,by simpa using hkD,by simpa using hb'⟩) (by omega)
        refine ⟨x',?_,h3⟩
        rw [ebb_Shore_sills.L1_eq]
        simp only [und,tl,List.map_cons,List.map_nil] at h1 ⊢
        simp only [ME,MS,List.cons_append,List.nil_append] at h1 ⊢
        simp only [ebb_Shore_sills.B1,beqT,beqF,exF_seq,exF_region,exF_block,exF_cond,exF_skip,runL,wantL,stepL,evL,evC,LEnv.at,putL,loadFine,loadL,cellsAt,Trk.putNew,Trk.up,Trk.touch,Trk.gives,Trk.calm,Trk.hit,opdsOf,Trk.fresh,LEnv.keep,List.map_cons,List.map_nil,nbeq,nble,nblt,bin_add,bin_lss,natL_nat,List.any_cons,List.any_nil,Bool.or_false,Bool.or_true,Bool.and_true,Bool.false_and,Bool.not_true,Bool.not_false,Nat.reduceEqDiff,decide_true,decide_false,cond_true,cond_false,List.filter_nil,Nat.reduceAdd,Nat.reduceLeDiff,reduceCtorEq,List.length_nil,List.length_cons,Nat.mul_one,eq_self,List.append_nil,List.nil_append,unL,LV.cells,List.getElem?_cons_zero,List.getElem?_cons_succ,storeL,spliceL,List.take_zero,List.take_succ_cons,List.drop_zero,List.drop_succ_cons,List.drop_nil,List.take_nil,Nat.le_refl,List.set_cons_zero,List.set_cons_succ,LV.scalar,List.all_cons,List.all_nil,hkl,h2,hlD,Nat.zero_add,hat,show ((-1 : Int) < 0) by omega,wk,trim_5,h1]
      · have hx2 : 0 ≤ x ∧ x.toNat < D.length ∧ D.getD x.toNat true = false := by
          rcases hx with h | h
          · exact absurd h hx1
          · exact h
        obtain ⟨y,rfl⟩ : ∃ y : Nat,x = (y : Int) := ⟨x.toNat,by omega⟩
        have hy : y < D.length := by simpa using hx2.2.1
        have hoy := int_at .i64 out y (by omega)
        by_cases hlt : out[k] < out[y]
        · obtain ⟨x',h1,h3⟩ := ih (k + 1) (k : Int) (by omega) (.inr ⟨by omega,by simpa using hkD,by simpa using hb'⟩) (by omega)
          refine ⟨x',?_,h3⟩
          rw [ebb_Shore_sills.L1_eq]
          simp only [und,tl,List.map_cons,List.map_nil] at h1 ⊢
          simp only [ME,MS,List.cons_append,List.nil_append] at h1 ⊢
          simp only [ebb_Shore_sills.B1,beqT,beqF,exF_seq,exF_region,exF_block,exF_cond,exF_skip,runL,wantL,stepL,evL,evC,LEnv.at,putL,loadFine,loadL,cellsAt,Trk.putNew,Trk.up,Trk.touch,Trk.gives,Trk.calm,Trk.hit,opdsOf,Trk.fresh,LEnv.keep,List.map_cons,List.map_nil,nbeq,nble,nblt,bin_add,bin_lss,natL_nat,List.any_cons,List.any_nil,Bool.or_false,Bool.or_true,Bool.and_true,Bool.false_and,Bool.not_true,Bool.not_false,Nat.reduceEqDiff,decide_true,decide_false,cond_true,cond_false,List.filter_nil,Nat.reduceAdd,Nat.reduceLeDiff,reduceCtorEq,List.length_nil,List.length_cons,Nat.mul_one,eq_self,List.append_nil,List.nil_append,unL,LV.cells,List.getElem?_cons_zero,List.getElem?_cons_succ,storeL,spliceL,List.take_zero,List.take_succ_cons,List.drop_zero,List.drop_succ_cons,List.drop_nil,List.take_nil,Nat.le_refl,List.set_cons_zero,List.set_cons_succ,LV.scalar,List.all_cons,List.all_nil,hkl,h2,hlD,hlen,Nat.zero_add,hat,show ¬ ((y : Int) < 0) by omega,show k < 37 by omega,show y < 37 by omega,hok,hoy,hlt,wk,trim_5,h1]
        · obtain ⟨x',h1,h3⟩ := ih (k + 1) (y : Int) (by omega) hx (by omega)
          refine ⟨x',?_,h3⟩
          rw [ebb_Shore_sills.L1_eq]
          simp only [und,tl,List.map_cons,List.map_nil] at h1 ⊢
          simp only [ME,MS,List.cons_append,List.nil_append] at h1 ⊢
          simp only [ebb_Shore_sills.B1,beqT,beqF,exF_seq,exF_region,exF_block,exF_cond,exF_skip,runL,wantL,stepL,evL,evC,LEnv.at,putL,loadFine,loadL,cellsAt,Trk.putNew,Trk.up,Trk.touch,Trk.gives,Trk.calm,Trk.hit,opdsOf,Trk.fresh,LEnv.keep,List.map_cons,List.map_nil,nbeq,nble,nblt,bin_add,bin_lss,natL_nat,List.any_cons,List.any_nil,Bool.or_false,Bool.or_true,Bool.and_true,Bool.false_and,Bool.not_true,Bool.not_false,Nat.reduceEqDiff,decide_true,decide_false,cond_true,cond_false,List.filter_nil,Nat.reduceAdd,Nat.reduceLeDiff,reduceCtorEq,List.length_nil,List.length_cons,Nat.mul_one,eq_self,unL,List.getElem?_cons_zero,List.getElem?_cons_succ,List.take_succ_cons,List.drop_zero,List.take_nil,Nat.le_refl,hkl,h2,hlD,hlen,Nat.zero_add,hat,show ¬ ((y : Int) < 0) by omega,show k < 37 by omega,show y < 37 by omega,hok,hoy,hlt,wk,trim_5,h1]
    · have hb' : D.getD k true = true := by simp [hkD,hb]
      rw [hb] at hat
      obtain ⟨x',h1,h3⟩ := ih (k + 1) x (by omega) hx fun h i hi => by
        by_cases e : i = k
        · subst e; exact hb'
        · exact ha h i (by omega)
      refine ⟨x',?_,h3⟩
      rw [ebb_Shore_sills.L1_eq]
      simp only [und,tl,List.map_cons,List.map_nil] at h1 ⊢
      simp only [ME,MS,List.cons_append,List.nil_append] at h1 ⊢
      simp only [ebb_Shore_sills.B1,beqT,exF_seq,exF_region,exF_block,exF_cond,exF_skip,runL,wantL,stepL,evL,evC,LEnv.at,putL,loadFine,loadL,cellsAt,Trk.putNew,Trk.up,Trk.touch,Trk.gives,Trk.calm,Trk.hit,opdsOf,Trk.fresh,LEnv.keep,List.map_cons,List.map_nil,nbeq,nble,nblt,bin_add,bin_lss,natL_nat,List.any_cons,List.any_nil,Bool.or_false,Bool.or_true,Bool.and_true,Bool.false_and,Bool.not_true,Bool.not_false,Nat.reduceEqDiff,decide_true,decide_false,cond_true,cond_false,List.filter_nil,Nat.reduceAdd,Nat.reduceLeDiff,List.length_nil,List.length_cons,Nat.mul_one,eq_self,unL,List.getElem?_cons_zero,List.getElem?_cons_succ,hkl,h2,hlD,Nat.zero_add,hat,wk,trim_5,h1]
end Go.Am.Top
set_option linter.unusedVariables false
set_option linter.unusedSimpArgs false
set_option maxRecDepth 10000
namespace Go.Am.Top
open Go.Am.G
abbrev capS : List LV := [.undef,.undef,.undef,.ptr 0 0 3,.undef,.undef,.undef,.undef,.undef,.ptr 2 0 37,.undef,.undef,.ptr 4 0 1,.undef,.undef,.undef,.undef,.undef,.undef,.undef,.undef,.undef,.undef,.ptr 5 0 1]
def valO (hs : List Int) (y : Nat) (o : List Int) (x : Nat) : Int :=
  if (if hs.getD x 0 > o.getD y 0 then hs.getD x 0 else o.getD y 0) < o.getD x 0 then (if hs.getD x 0 > o.getD y 0 then hs.getD x 0 else o.getD y 0) else o.getD x 0
def stepO (hs : List Int) (y : Nat) (o : List Int) (x : Nat) : List Int := if x < hs.length then o.set x (valO hs y o x) else o
theorem stepO_len (hs : List Int) (y : Nat) (o : List Int) (x : Nat) : (stepO hs y o x).length = o.length := by
  unfold stepO; split <;> simp
theorem stepO_ok {hs : List Int} {c y : Nat} {o : List Int} (hN : hs.length ≤ 36) (h : OkO hs c o) (hy : y < hs.length) (x : Nat) : OkO hs c (stepO hs y o x) := by
  refine ⟨by rw [stepO_len,h.len],fun i hi => ?_⟩
  unfold stepO
  by_cases hx : x < hs.length
  · rw [if_pos hx,getD_set (by rw [h.len]; omega)]
    by_cases e : x = i
    · subst e
      rw [if_pos rfl]
      have h1 := h.val x hx
      have h2 := h.val y hy
      unfold okA at h1 h2 ⊢
      unfold valO
      split <;> split <;> omega
    · rw [if_neg e]; exact h.val i hi
  · rw [if_neg hx]; exact h.val i hi
abbrev Out : Type := {o : List Int // o.length = 37}
abbrev memO (r c : Nat) (nl ex : Bool) (sz : Nat) (hs : List Int) (D : List Bool) (y : Nat) (o : Out) : LMem := ME r c nl ex sz hs o.1 D (y : Int) ++ [⟨[.bool true],true⟩]
abbrev stepP (hs : List Int) (y : Nat) (o : Out) (x : Nat) : Out := ⟨stepO hs y o.1 x,by rw [stepO_len,o.2]⟩
theorem r0_eq (a : List LV) (m : LMem) : clF LP n_ebb_Shore_sills_r0 a m = match retL ebb_Shore_sills_r0.results (exF LP ebb_Shore_sills_r0.B (LEnv.ofFrom 0 a) m) with
    | some (v,m1) => some (.W,v,trim m.length [v] m1)
    | none => none := by
  rw [clF_eq,lp_ebb_Shore_sills_r0]
  rfl
theorem asks_s {r c : Nat} {hs : List Int} (S : Sho r c hs) (nl ex : Bool) (sz : Nat) (D : List Bool) (y : Nat) (hy : y < hs.length) : Asks n_ebb_Shore_sills_w0 [.ptr 5 0 1] capS hs.length (memO r c nl ex sz hs D y) (stepP hs y) := by
  refine ⟨fun ⟨o,ho⟩ x hx => ?_,fun a b => rfl⟩
  have hle := S.le
  have hr := fun m => river_c r c hs nl ex sz m
  have key : retL ebb_Shore_sills_w0.results (exF LP ebb_Shore_sills_w0.body (LEnv.ofFrom 0 ([.ptr 5 0 1] ++ ([.int .i64 (x : Int)] ++ capS))) (memO r c nl ex sz hs D y ⟨o,ho⟩)) = some (.bool true,memO r c nl ex sz hs D y (stepP hs y ⟨o,ho⟩ x)) := by
    have hlen : (o.map (LV.int .i64)).length = 37 := by rw [List.length_map,ho]
    by_cases h : x < hs.length
    · have h1 := int_at .i64 o x (by omega)
      have h2 := int_at .i64 o y (by omega)
      have h3 := int_at .i64 hs x h
      have h4 := set_int .i64 o x (valO hs y o x) (by omega)
      have e : valO hs y o x = if (if hs[x] > o[y] then hs[x] else o[y]) < o[x] then (if hs[x] > o[y] then hs[x] else o[y]) else o[x] := by
        unfold valO
        rw [getD_at h,getD_at (show x < o.length by omega),getD_at (show y < o.length by omega)]
      rw [e] at h4
      have es : stepO hs y o x = o.set x (if (if hs[x] > o[y] then hs[x] else o[y]) < o[x] then (if hs[x] > o[y] then hs[x] else o[y]) else o[x]) := by
        unfold stepO
        rw [if_pos h,e]
      simp only [memO,ME,MS,stepP,es,List.cons_append,List.nil_append,capS]
      simp only [ebb_Shore_sills_w0,ebb_Shore_sills_w0.B,beqT,beqF,exF_seq,exF_region,exF_block,exF_cond,exF_ret,exF_exit,exF_skip,runL,wantL,stepL,evL,evC,LEnv.at,putL,loadFine,loadL,cellsAt,Trk.putNew,Trk.up,Trk.touch,Trk.gives,Trk.calm,Trk.hit,opdsOf,Trk.fresh,LEnv.keep,LEnv.ofFrom,List.map_cons,List.map_nil,nbeq,nble,nblt,ofAV,ofAVs,lenL,bin_add,bin_sub,bin_mul,bin_eql,bin_neq,bin_lss,bin_leq,bin_gtr,bin_geq,natL_nat,natL_zero,natL_one,natL_two,Nat.zero_mul,List.any_cons,List.any_nil,Bool.or_false,Bool.false_or,Bool.true_or,Bool.or_true,Bool.and_true,Bool.true_and,Bool.and_false,Bool.false_and,Bool.not_true,Bool.not_false,Nat.reduceBEq,Nat.reduceEqDiff,decide_true,decide_false,cond_true,cond_false,List.filter_nil,List.filter_cons,Nat.reduceAdd,Nat.reduceLeDiff,reduceCtorEq,List.length_nil,List.length_cons,Nat.mul_one,if_true,if_false,Bool.false_eq_true,eq_self,and_true,true_and,retL,resultsL,resAllL,resOfL,List.append_nil,List.nil_append,List.cons_append,true_or,or_true,false_or,or_false,false_and,and_false,not_true_eq_false,not_false_eq_true,ne_eq,unL,trim_nil,views_pures,LV.pures,LV.pure,freeze,Nat.reduceDiv,Int.reduceEq,Int.reduceLT,Int.reduceLE,Int.natCast_zero,LV.cells,allocL,List.getElem?_cons_zero,List.getElem?_cons_succ,storeL,spliceL,List.take_zero,List.take_succ_cons,List.drop_zero,List.drop_succ_cons,List.drop_nil,List.take_nil,Nat.le_refl,Nat.reduceMul,List.set_cons_zero,List.set_cons_succ,LV.scalar,List.all_cons,List.all_nil,Nat.lt_add_one,Nat.zero_lt_one,Nat.reduceLT,Nat.lt_irrefl,fillL,List.length_append,foldIntL,kind_beq,pures_int,solids_int,plains_int,unders_int,scalars_int,r0_eq,ebb_Shore_sills_r0,ebb_Shore_sills_r0.B,trim_6,hr,show (x : Int) < (hs.length : Int) by omega,h,hlen,h1,h2,h3,h4,show x < 37 by omega,show y < 37 by omega,show x + 1 ≤ 37 by omega,Nat.zero_add]
    · have es : stepO hs y o x = o := by
        unfold stepO
        rw [if_neg h]
      simp only [memO,ME,MS,stepP,es,List.cons_append,List.nil_append,capS]
      simp only [ebb_Shore_sills_w0,ebb_Shore_sills_w0.B,beqT,beqF,exF_seq,exF_region,exF_block,exF_cond,exF_ret,exF_exit,exF_skip,runL,wantL,stepL,evL,evC,LEnv.at,putL,loadFine,loadL,cellsAt,Trk.putNew,Trk.up,Trk.touch,Trk.gives,Trk.calm,Trk.hit,opdsOf,Trk.fresh,LEnv.keep,LEnv.ofFrom,List.map_cons,List.map_nil,nbeq,nble,nblt,ofAV,ofAVs,lenL,bin_add,bin_sub,bin_mul,bin_eql,bin_neq,bin_lss,bin_leq,bin_gtr,bin_geq,natL_nat,natL_zero,natL_one,natL_two,Nat.zero_mul,List.any_cons,List.any_nil,Bool.or_false,Bool.false_or,Bool.true_or,Bool.or_true,Bool.and_true,Bool.true_and,Bool.and_false,Bool.false_and,Bool.not_true,Bool.not_false,Nat.reduceBEq,Nat.reduceEqDiff,decide_true,decide_false,cond_true,cond_false,List.filter_nil,List.filter_cons,Nat.reduceAdd,Nat.reduceLeDiff,reduceCtorEq,List.length_nil,List.length_cons,Nat.mul_one,if_true,if_false,Bool.false_eq_true,eq_self,and_true,true_and,retL,resultsL,resAllL,resOfL,List.append_nil,List.nil_append,List.cons_append,true_or,or_true,false_or,or_false,false_and,and_false,not_true_eq_false,not_false_eq_true,ne_eq,unL,trim_nil,views_pures,LV.pures,LV.pure,freeze,Nat.reduceDiv,Int.reduceEq,Int.reduceLT,Int.reduceLE,Int.natCast_zero,LV.cells,allocL,List.getElem?_cons_zero,List.getElem?_cons_succ,storeL,spliceL,List.take_zero,List.take_succ_cons,List.drop_zero,List.drop_succ_cons,List.drop_nil,List.take_nil,Nat.le_refl,Nat.reduceMul,List.set_cons_zero,List.set_cons_succ,LV.scalar,List.all_cons,List.all_nil,Nat.lt_add_one,Nat.zero_lt_one,Nat.reduceLT,Nat.lt_irrefl,fillL,List.length_append,foldIntL,kind_beq,pures_int,solids_int,plains_int,unders_int,scalars_int,r0_eq,ebb_Shore_sills_r0,ebb_Shore_sills_r0.B,trim_6,hr,show ¬ (x : Int) < (hs.length : Int) by omega]
  have := call_W lp_ebb_Shore_sills_w0 rfl key
  rw [trim_le (List.length (memO r c nl ex sz hs D y ⟨o,ho⟩)) [.bool true] (memO r c nl ex sz hs D y (stepP hs y ⟨o,ho⟩ x)) (Nat.le_refl 6)] at this
  exact this
theorem help_s {r c : Nat} {hs : List Int} (S : Sho r c hs) (nl ex : Bool) (sz : Nat) (D : List Bool) (y : Nat) (hy : y < hs.length) (o : List Int) (ho : OkO hs c o) :
    ∃ o',OkO hs c o' ∧ clF LP n_ebb_Shore_sills_h0 ([.func n_ebb_Shore_beside_1 [] [.elt [.int .i64 (y : Int)] 0,.elt (SH r c nl ex sz hs) 0],.undef,.undef,.undef,.ptr 0 0 3,.undef,.undef,.undef,.undef,.undef,.ptr 2 0 37,.undef,.undef,.ptr 4 0 1,.undef,.undef,.undef,.undef,.undef,.undef,.undef,.undef,.undef,.undef]) (ME r c nl ex sz hs o D (y : Int)) = some (.W,.tup [],ME r c nl ex sz hs o' D (y : Int)) := by
  have hb := beside1_c S (asks_s S nl ex sz D y hy) nl ex sz y hy ⟨o,ho.len⟩
  have hok : ∀ (l : List Nat) (a : Out),OkO hs c a.1 → OkO hs c (l.foldl (stepP hs y) a).1 := by
    intro l
    induction l with
    | nil => intro a h; exact h
    | cons x l ih => intro a h; rw [List.foldl_cons]; exact ih _ (stepO_ok S.le h hy x)
  have hf := hok (nbs y c hs.length) ⟨o,ho.len⟩ ho
  generalize (nbs y c hs.length).foldl (stepP hs y) ⟨o,ho.len⟩ = o' at *
  refine ⟨o'.1,hf,?_⟩
  have key : retL ebb_Shore_sills_h0.results (exF LP ebb_Shore_sills_h0.body (LEnv.ofFrom 0 [.func n_ebb_Shore_beside_1 [] [.elt [.int .i64 (y : Int)] 0,.elt (SH r c nl ex sz hs) 0],.undef,.undef,.undef,.ptr 0 0 3,.undef,.undef,.undef,.undef,.undef,.ptr 2 0 37,.undef,.undef,.ptr 4 0 1,.undef,.undef,.undef,.undef,.undef,.undef,.undef,.undef,.undef,.undef]) (ME r c nl ex sz hs o D (y : Int))) = some (.tup [],ME r c nl ex sz hs o'.1 D (y : Int) ++ [⟨[.bool false],true⟩]) := by
    simp only [memO,ME,MS,List.cons_append,List.nil_append,capS] at hb ⊢
    simp only [ebb_Shore_sills_h0,ebb_Shore_sills_h0.B,beqT,beqF,exF_seq,exF_region,exF_block,exF_cond,exF_ret,exF_exit,exF_skip,runL,wantL,stepL,evL,evC,LEnv.at,putL,loadFine,loadL,cellsAt,Trk.putNew,Trk.up,Trk.touch,Trk.gives,Trk.calm,Trk.hit,opdsOf,Trk.fresh,LEnv.keep,LEnv.ofFrom,List.map_cons,List.map_nil,nbeq,nble,nblt,ofAV,ofAVs,lenL,bin_add,bin_sub,bin_mul,bin_eql,bin_neq,bin_lss,bin_leq,bin_gtr,bin_geq,natL_nat,natL_zero,natL_one,natL_two,Nat.zero_mul,List.any_cons,List.any_nil,Bool.or_false,Bool.false_or,Bool.true_or,Bool.or_true,Bool.and_true,Bool.true_and,Bool.and_false,Bool.false_and,Bool.not_true,Bool.not_false,Nat.reduceBEq,Nat.reduceEqDiff,decide_true,decide_false,cond_true,cond_false,List.filter_nil,List.filter_cons,Nat.reduceAdd,Nat.reduceLeDiff,reduceCtorEq,List.length_nil,List.length_cons,Nat.mul_one,if_true,if_false,Bool.false_eq_true,eq_self,and_true,true_and,retL,resultsL,resAllL,resOfL,List.append_nil,List.nil_append,List.cons_append,true_or,or_true,false_or,or_false,false_and,and_false,not_true_eq_false,not_false_eq_true,ne_eq,unL,trim_nil,views_pures,LV.pures,LV.pure,freeze,Nat.reduceDiv,Int.reduceEq,Int.reduceLT,Int.reduceLE,Int.natCast_zero,LV.cells,allocL,List.getElem?_cons_zero,List.getElem?_cons_succ,storeL,spliceL,List.take_zero,List.take_succ_cons,List.drop_zero,List.drop_succ_cons,List.drop_nil,List.take_nil,Nat.le_refl,Nat.reduceMul,List.set_cons_zero,List.set_cons_succ,LV.scalar,List.all_cons,List.all_nil,Nat.lt_add_one,Nat.zero_lt_one,Nat.reduceLT,Nat.lt_irrefl,fillL,List.length_append,foldIntL,kind_beq,pures_int,solids_int,plains_int,unders_int,scalars_int,hb]
  have := call_W lp_ebb_Shore_sills_h0 rfl key
  rw [this]
  have ht : ∀ f : LBlk,trim 5 [.tup []] (ME r c nl ex sz hs o'.1 D (y : Int) ++ [f]) = ME r c nl ex sz hs o'.1 D (y : Int) := by
    intro f
    have hD : ∀ l : List Bool,LV.unders 5 (l.map LV.bool) = true := by
      intro l
      induction l with
      | nil => rfl
      | cons a l ih => simp [LV.unders,LV.under,ih]
    simp [trim,ME,MS,belowM,unders_int,LV.unders,LV.under,hD]
  have hl : (ME r c nl ex sz hs o D (y : Int)).length = 5 := rfl
  rw [hl,ht]
end Go.Am.Top
set_option linter.unusedVariables false
set_option linter.unusedSimpArgs false
set_option maxRecDepth 10000
namespace Go.Am.Top
open Go.Am.G
theorem unders_bools (k : Nat) : ∀ l : List Bool,LV.unders k (l.map LV.bool) = true
  | [] => rfl
  | a :: l => by
    have := unders_bools k l
    simp [LV.unders,LV.under,this]
theorem trim_s (r c : Nat) (nl ex : Bool) (sz : Nat) (hs o : List Int) (D : List Bool) (x : Int) (N : Nat) (t : Int) (vs : List LV) (hv : LV.unders 4 vs = true) :
    trim 4 vs (ME r c nl ex sz hs o D x) = MS r c nl ex sz hs o D := by
  simp [trim,ME,MS,belowM,unders_int,LV.unders,LV.under,unders_bools,hv]
theorem free_one {D : List Bool} (h : D.count true < D.length) : ∃ i,i < D.length ∧ D.getD i true = false := by
  refine Classical.byContradiction fun hc => ?_
  have : ∀ b ∈ D,true = b := by
    intro b hb
    obtain ⟨i,hi,rfl⟩ := List.getElem_of_mem hb
    cases e : D[i]
    · exact absurd ⟨i,hi,by simp [hi,e]⟩ hc
    · rfl
  have := List.count_eq_length.2 this
  omega
theorem count_done {D : List Bool} {y : Nat} (hy : y < D.length) (h : D.getD y true = false) : (D.set y true).count true = D.count true + 1 := by
  have e : D[y] = false := by simpa [hy] using h
  rw [List.count_set (h := hy),e]
  simp
theorem sl2_loop {r c : Nat} {hs : List Int} (S : Sho r c hs) (nl ex : Bool) (sz : Nat) (n : Nat) : ∀ (k : Nat) (out : List Int) (D : List Bool),k + n = hs.length → D.length = hs.length → D.count true = k → OkO hs c out →
    ∃ out' D',exF LP ebb_Shore_sills.L2 ((1,.ptr 0 0 3) :: (2,.ptr 1 0 37) :: (3,.ptr 2 0 37) :: (4,.sl 3 0 hs.length hs.length 0 1 hs.length) :: (9,.undef) :: (36,.int .i64 (hs.length : Int)) :: (37,.int .i64 (k : Int)) :: und tl) (MS r c nl ex sz hs out D) =
      some (.exit 2,[(2,.ptr 1 0 37),(3,.ptr 2 0 37)],MS r c nl ex sz hs out' D') ∧ OkO hs c out' := by
  have hle := S.le
  induction n with
  | zero =>
    intro k out D hk hD hc ho
    refine ⟨out,D,?_,ho⟩
    rw [ebb_Shore_sills.L2_eq]
    simp only [ebb_Shore_sills.B2,beqT,beqF,exF_seq,exF_region,exF_block,exF_cond,exF_ret,exF_exit,exF_skip,runL,wantL,stepL,evL,evC,LEnv.at,putL,loadFine,loadL,cellsAt,Trk.putNew,Trk.up,Trk.touch,Trk.gives,Trk.calm,Trk.hit,opdsOf,Trk.fresh,LEnv.keep,LEnv.ofFrom,List.map_cons,List.map_nil,nbeq,nble,nblt,ofAV,ofAVs,lenL,bin_add,bin_sub,bin_mul,bin_eql,bin_neq,bin_lss,bin_leq,bin_gtr,bin_geq,natL_nat,natL_zero,natL_one,natL_two,Nat.zero_mul,List.any_cons,List.any_nil,Bool.or_false,Bool.false_or,Bool.true_or,Bool.or_true,Bool.and_true,Bool.true_and,Bool.and_false,Bool.false_and,Bool.not_true,Bool.not_false,Nat.reduceBEq,Nat.reduceEqDiff,decide_true,decide_false,cond_true,cond_false,List.filter_nil,List.filter_cons,Nat.reduceAdd,Nat.reduceLeDiff,reduceCtorEq,List.length_nil,List.length_cons,Nat.mul_one,if_true,if_false,Bool.false_eq_true,eq_self,and_true,true_and,retL,resultsL,resAllL,resOfL,List.append_nil,List.nil_append,List.cons_append,true_or,or_true,false_or,or_false,false_and,and_false,not_true_eq_false,not_false_eq_true,ne_eq,unL,trim_nil,views_pures,LV.pures,LV.pure,freeze,Nat.reduceDiv,Int.reduceEq,Int.reduceLT,Int.reduceLE,Int.natCast_zero,LV.cells,allocL,List.getElem?_cons_zero,List.getElem?_cons_succ,storeL,spliceL,List.take_zero,List.take_succ_cons,List.drop_zero,List.drop_succ_cons,List.drop_nil,List.take_nil,Nat.le_refl,Nat.reduceMul,List.set_cons_zero,List.set_cons_succ,LV.scalar,List.all_cons,List.all_nil,Nat.lt_add_one,Nat.zero_lt_one,Nat.reduceLT,Nat.lt_irrefl,fillL,List.length_append,foldIntL,kind_beq,pures_int,solids_int,plains_int,unders_int,scalars_int,show ¬ ((k : Int) < (hs.length : Int)) by omega,und,tl]
  | succ n ih =>
    intro k out D hk hD hc ho
    have hkl : (k : Int) < (hs.length : Int) := by omega
    have wk := wrap_succ (show k + 1 < 9223372036854775808 by omega)
    obtain ⟨x,h1,h2,h3⟩ := sl1_loop (r := r) (c := c) nl ex sz out D hle hD ho.len k hs.length 0 (-1) (by omega) (.inl rfl) (by omega)
    obtain ⟨i,hi,hif⟩ := free_one (D := D) (by omega)
    have hx : x ≠ -1 := fun e => by rw [h3 e i (by omega)] at hif; cases hif
    have hx2 : 0 ≤ x ∧ x.toNat < D.length ∧ D.getD x.toNat true = false := by
      rcases h2 with h | h
      · exact absurd h hx
      · exact h
    obtain ⟨y,rfl⟩ : ∃ y : Nat,x = (y : Int) := ⟨x.toNat,by omega⟩
    have hyD : y < D.length := by simpa using hx2.2.1
    have hy : y < hs.length := by omega
    have hyf : D.getD y true = false := by simpa using hx2.2.2
    obtain ⟨o',ho',h4⟩ := help_s S nl ex sz (D.set y true) y hy out ho
    obtain ⟨out',D',h5,ho2⟩ := ih (k + 1) o' (D.set y true) (by omega) (by simp [hD]) (by rw [count_done hyD hyf,hc]) ho'
    refine ⟨out',D',?_,ho2⟩
    have hbs := fun m => beside_c r c hs nl ex sz y m
    have hst := set_bool D y true hyD
    have hlD : (D.map LV.bool).length = hs.length := by rw [List.length_map,hD]
    have htr := fun vs hv => trim_s r c nl ex sz hs o' (D.set y true) (y : Int) 0 0 vs hv
    have htr := htr ((.ptr 0 0 3) :: (.ptr 1 0 37) :: (.ptr 2 0 37) :: (.sl 3 0 hs.length hs.length 0 1 hs.length) :: (.undef) :: (.int .i64 (hs.length : Int)) :: (.int .i64 ((k + 1 : Nat) : Int)) :: tl.map fun _ => .undef) (by simp [LV.unders,LV.under,tl,nblt])
    rw [ebb_Shore_sills.L2_eq]
    simp only [und,tl,List.map_cons,List.map_nil,Int.natCast_zero] at h1 h5 htr ⊢
    simp only [ME,MS,List.cons_append,List.nil_append] at h1 h4 h5 htr ⊢
    simp only [ebb_Shore_sills.B2,beqT,beqF,exF_seq,exF_region,exF_block,exF_cond,exF_ret,exF_exit,exF_skip,runL,wantL,stepL,evL,evC,LEnv.at,putL,loadFine,loadL,cellsAt,Trk.putNew,Trk.up,Trk.touch,Trk.gives,Trk.calm,Trk.hit,opdsOf,Trk.fresh,LEnv.keep,LEnv.ofFrom,List.map_cons,List.map_nil,nbeq,nble,nblt,ofAV,ofAVs,lenL,bin_add,bin_sub,bin_mul,bin_eql,bin_neq,bin_lss,bin_leq,bin_gtr,bin_geq,natL_nat,natL_zero,natL_one,natL_two,Nat.zero_mul,List.any_cons,List.any_nil,Bool.or_false,Bool.false_or,Bool.true_or,Bool.or_true,Bool.and_true,Bool.true_and,Bool.and_false,Bool.false_and,Bool.not_true,Bool.not_false,Nat.reduceBEq,Nat.reduceEqDiff,decide_true,decide_false,cond_true,cond_false,List.filter_nil,List.filter_cons,Nat.reduceAdd,Nat.reduceLeDiff,reduceCtorEq,List.length_nil,List.length_cons,Nat.mul_one,if_true,if_false,Bool.false_eq_true,eq_self,and_true,true_and,retL,resultsL,resAllL,resOfL,List.append_nil,List.nil_append,List.cons_append,true_or,or_true,false_or,or_false,false_and,and_false,not_true_eq_false,not_false_eq_true,ne_eq,unL,trim_nil,views_pures,LV.pures,LV.pure,freeze,Nat.reduceDiv,Int.reduceEq,Int.reduceLT,Int.reduceLE,Int.natCast_zero,LV.cells,allocL,List.getElem?_cons_zero,List.getElem?_cons_succ,storeL,spliceL,List.take_zero,List.take_succ_cons,List.drop_zero,List.drop_succ_cons,List.drop_nil,List.take_nil,Nat.le_refl,Nat.reduceMul,List.set_cons_zero,List.set_cons_succ,LV.scalar,List.all_cons,List.all_nil,Nat.lt_add_one,Nat.zero_lt_one,Nat.reduceLT,Nat.lt_irrefl,fillL,List.length_append,foldIntL,kind_beq,pures_int,solids_int,plains_int,unders_int,scalars_int,hkl,h1,hlD,hst,hy,show y + 1 ≤ hs.length by omega,Nat.zero_add,hbs,h4,wk,envVals,htr,h5]
theorem initS (N : Nat) : zerosL [LV.bool false] N = (List.replicate N false).map LV.bool := by
  unfold zerosL
  apply List.ext_getElem?
  intro i
  by_cases h : i < N
  · simp [h,Nat.mod_one]
  · simp [h,Nat.mod_one]
theorem sills_c {r c : Nat} {hs : List Int} (S : Sho r c hs) (nl ex : Bool) (sz : Nat) :
    ∃ out,OkO hs c out ∧ ∀ m,clF LP n_ebb_Shore_sills [.agg (SH r c nl ex sz hs)] m = some (.P,.agg (out.map (LV.int .i64)),m) := by
  have hle := S.le
  have hr := fun m => river_c r c hs nl ex sz m
  obtain ⟨o1,h1,ho1⟩ := sl0_loop S nl ex sz (List.replicate hs.length false) hs.length 0 zI (by omega) (by simp) (by omega)
  obtain ⟨out,D,h2,ho⟩ := sl2_loop S nl ex sz hs.length 0 o1 (List.replicate hs.length false) (by omega) (by simp) (by rw [List.count_eq_zero]; simp) ho1
  refine ⟨out,ho,fun m => ?_⟩
  have hlen : (out.map (LV.int .i64)).length = 37 := by rw [List.length_map,ho.len]
  have htk : (out.map (LV.int .i64)).take 37 = out.map (LV.int .i64) := List.take_of_length_le (by omega)
  have hz : (zI.map (LV.int .i64)).length = 37 := by simp
  have hdz : (zI.map (LV.int .i64)).drop 37 = [] := List.drop_eq_nil_of_le (by simp)
  have hroom : (Nat.ble (hs.length * 1) roomMost && Nat.ble hs.length roomMost) = true := by
    simp only [Bool.and_eq_true,Nat.ble_eq]
    unfold roomMost
    omega
  refine call_P lp_ebb_Shore_sills rfl (by simp [LV.pures,LV.pure,pures_int]) (m1 := [⟨SH r c nl ex sz hs,true⟩,⟨out.map (LV.int .i64),true⟩,⟨out.map (LV.int .i64),true⟩,⟨D.map LV.bool,true⟩]) ?_ (by simp [LV.pure,pures_int]) m
  have hbr1 : hs.length ≤ roomMost := by unfold roomMost; omega
  simp only [und,tl,List.map_cons,List.map_nil,Int.natCast_zero,MS] at h1 h2 ⊢
  have hzz : ∀ a : LV,[a,a,a,a,a,a,a,a,a,a,a,a,a,a,a,a,a,a,a,a,a,a,a,a,a,a,a,a,a,a,a,a,a,a,a,a,a] = List.replicate 37 a := fun a => rfl
  have hzm : zI.map (LV.int .i64) = List.replicate 37 (LV.int .i64 0) := by simp [zI]
  rw [hzm] at h1 h2 hz hdz
  simp only [ebb_Shore_sills,ebb_Shore_sills.B,beqT,beqF,exF_seq,exF_region,exF_block,exF_cond,exF_ret,exF_exit,exF_skip,runL,wantL,stepL,evL,evC,LEnv.at,putL,loadFine,loadL,cellsAt,Trk.putNew,Trk.up,Trk.touch,Trk.gives,Trk.calm,Trk.hit,opdsOf,Trk.fresh,LEnv.keep,LEnv.ofFrom,List.map_cons,List.map_nil,nbeq,nble,nblt,ofAV,ofAVs,lenL,bin_add,bin_sub,bin_mul,bin_eql,bin_neq,bin_lss,bin_leq,bin_gtr,bin_geq,natL_nat,natL_zero,natL_one,natL_two,Nat.zero_mul,List.any_cons,List.any_nil,Bool.or_false,Bool.false_or,Bool.true_or,Bool.or_true,Bool.and_true,Bool.true_and,Bool.and_false,Bool.false_and,Bool.not_true,Bool.not_false,Nat.reduceBEq,Nat.reduceEqDiff,decide_true,decide_false,cond_true,cond_false,List.filter_nil,List.filter_cons,Nat.reduceAdd,Nat.reduceLeDiff,reduceCtorEq,List.length_nil,List.length_cons,Nat.mul_one,if_true,if_false,Bool.false_eq_true,eq_self,and_true,true_and,retL,resultsL,resAllL,resOfL,List.append_nil,List.nil_append,List.cons_append,true_or,or_true,false_or,or_false,false_and,and_false,not_true_eq_false,not_false_eq_true,ne_eq,unL,trim_nil,views_pures,LV.pures,LV.pure,freeze,Nat.reduceDiv,Int.reduceEq,Int.reduceLT,Int.reduceLE,Int.natCast_zero,LV.cells,allocL,List.getElem?_cons_zero,List.getElem?_cons_succ,storeL,spliceL,List.take_zero,List.take_succ_cons,List.drop_zero,List.drop_succ_cons,List.drop_nil,List.take_nil,Nat.le_refl,Nat.reduceMul,List.set_cons_zero,List.set_cons_succ,LV.scalar,List.all_cons,List.all_nil,Nat.lt_add_one,Nat.zero_lt_one,Nat.reduceLT,Nat.lt_irrefl,fillL,List.length_append,foldIntL,kind_beq,pures_int,solids_int,plains_int,unders_int,scalars_int,hr,initS,hzz,List.length_replicate,hbr1,h1,h2,hlen,htk,hdz,hz]
end Go.Am.Top
