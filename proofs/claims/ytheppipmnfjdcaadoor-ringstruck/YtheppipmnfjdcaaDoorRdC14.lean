import Derived.Test.YtheppipmnfjdcaaDoorRdC9
set_option linter.unusedVariables false
set_option linter.unusedSimpArgs false
set_option maxRecDepth 10000
namespace Go.Am.Ring
open Go.Am.G
def swp (p : Int × Int) : Int × Int := (p.2,p.1)
def twF (S : List Int) : Nat → List (Int × Int) → List (Int × Int)
  | _,[] => []
  | k,p :: r => (if (k : Int) ∈ S then swp p else p) :: twF S (k + 1) r
theorem twF_len (S : List Int) : ∀ (l : List (Int × Int)) (k : Nat),(twF S k l).length = l.length
  | [],k => rfl
  | p :: r,k => by rw [twF,List.length_cons,twF_len S r,List.length_cons]
theorem twF_at (S : List Int) : ∀ (l : List (Int × Int)) (k i : Nat),(twF S k l)[i]? = (l[i]?).map fun p => if ((k + i : Nat) : Int) ∈ S then swp p else p
  | [],k,i => by simp [twF]
  | p :: r,k,0 => by simp [twF]
  | p :: r,k,i + 1 => by
    rw [twF,List.getElem?_cons_succ,List.getElem?_cons_succ,twF_at S r (k + 1) i,show k + 1 + i = k + (i + 1) by omega]
theorem twF_set (S : List Int) (l : List (Int × Int)) (x : Nat) (hx : x < l.length) (hS : (x : Int) ∉ S) : (twF S 0 l).set x (swp l[x]) = twF (S ++ [(x : Int)]) 0 l := by
  apply List.ext_getElem?
  intro i
  rw [List.getElem?_set,twF_len,twF_at,twF_at]
  by_cases c : x = i
  · subst c
    simp [hx]
  · rw [if_neg c]
    have : ¬ ((i : Int) = (x : Int)) := by omega
    simp [this]
theorem twF_nil (l : List (Int × Int)) : twF [] 0 l = l := by
  apply List.ext_getElem?
  intro i
  rw [twF_at]
  cases l[i]? <;> simp
def chkW (N : Int) : Int → List Int → Int
  | _,[] => 0
  | last,x :: r => if 0 ≤ x ∧ x < N then (if x ≤ last then 7 else chkW N x r) else 2
theorem clone2_c (ex : Bool) (l : List (Int × Int)) (hl : l.length < 1000) (hne : l ≠ []) (m : LMem) : clF LP n_slices_Clone_2_int_2_int [FL false ex 2 l] m = some (.O,.sl m.length 0 l.length l.length 2 2 (l.length * 2),m ++ [⟨pcI l,true⟩]) := by
  have h0 : ¬ l.length = 0 := by simpa using hne
  have hr1 : l.length * 16 ≤ roomMost := by unfold roomMost; omega
  have hr2 : l.length ≤ roomMost := by unfold roomMost; omega
  have hsc : (pcI l).all LV.scalar = true := by
    clear hl hne h0 hr1 hr2
    induction l with
    | nil => rfl
    | cons a r ih => exact ih
  have hpl := pcI_len l
  have hshift : ∀ n,LV.shifts n (pcI l) = pcI l := by
    intro n
    rw [pcI]
    clear hl hne h0 hr1 hr2 hsc hpl
    induction l with
    | nil => rfl
    | cons a r ih => rw [List.flatMap_cons]; simp only [pc,List.cons_append,List.nil_append,LV.shifts,LV.shift,ih]
  have hsolid : LV.solids (pcI l) = true := by
    rw [pcI]
    clear hl hne h0 hr1 hr2 hsc hpl hshift
    induction l with
    | nil => rfl
    | cons a r ih => rw [List.flatMap_cons]; simp only [pc,List.cons_append,List.nil_append,LV.solids,LV.solid,ih,Bool.true_and]
  rw [clF_eq,lp_slices_Clone_2_int_2_int]
  simp only [callMode,slices_Clone_2_int_2_int,views_pures m [FL false ex 2 l] (by simp [LV.pures,LV.pure])]
  simp only [slices_Clone_2_int_2_int.B,exF_seq,exF_region,exF_cond,exF_ret,exF_skip,runL,wantL,stepL,evL,evC,LEnv.at,putL,loadFine,LEnv.keep,LEnv.ofFrom,List.map_cons,List.map_nil,nbeq,nble,ofAVs,Nat.zero_mul,Bool.or_false,Bool.or_true,Bool.and_true,Nat.reduceEqDiff,decide_true,decide_false,cond_true,cond_false,reduceCtorEq,List.length_nil,eq_self,retL,resultsL,resAllL,resOfL,List.nil_append,freeze,Nat.reduceDiv,List.take_nil,List.all_cons,List.all_nil,fillL,nilOf,eqsL,Bool.xor_false,LV.shift,newOnly,LV.solid,freeze,appendL,contents,views,viewL,h0,hr1,hr2,hsc,newSl,Nat.zero_add,hshift,hsolid]
theorem clone20_c (nl ex : Bool) (sz : Nat) (m : LMem) : clF LP n_slices_Clone_2_int_2_int [.lst nl ex sz 0 []] m = some (.O,.lst nl true 0 0 [],m) := by
  rw [clF_eq,lp_slices_Clone_2_int_2_int]
  simp only [callMode,slices_Clone_2_int_2_int,views_pures m [.lst nl ex sz 0 []] (by simp [LV.pures,LV.pure])]
  cases nl with
  | true => simp only [slices_Clone_2_int_2_int.B,exF_seq,exF_region,exF_cond,exF_ret,runL,wantL,stepL,evL,evC,LEnv.at,putL,loadFine,LEnv.keep,LEnv.ofFrom,List.map_cons,List.map_nil,nbeq,Bool.and_true,Bool.not_false,Nat.reduceEqDiff,decide_true,decide_false,cond_true,cond_false,reduceCtorEq,eq_self,retL,resultsL,resAllL,resOfL,List.append_nil,freeze,List.all_nil,nilOf,eqsL,Bool.xor_true,LV.shift,newOnly,LV.solid,freeze]
  | false => simp only [slices_Clone_2_int_2_int.B,exF_seq,exF_region,exF_cond,exF_ret,exF_skip,runL,wantL,stepL,evL,evC,LEnv.at,putL,loadFine,LEnv.keep,LEnv.ofFrom,List.map_cons,List.map_nil,nbeq,nble,ofAVs,Nat.zero_mul,Bool.or_false,Bool.true_or,Bool.or_true,Bool.and_true,Nat.reduceEqDiff,decide_true,decide_false,cond_true,cond_false,Nat.reduceAdd,reduceCtorEq,List.length_nil,eq_self,retL,resultsL,resAllL,resOfL,List.append_nil,freeze,Nat.reduceDiv,List.take_nil,List.all_nil,fillL,nilOf,eqsL,Bool.xor_false,LV.shift,newOnly,LV.solid,freeze,appendL,contents,views,viewL]
theorem turn_loop (nl ex nl' ex' : Bool) (sz : Nat) (l : List (Int × Int)) (hl : l.length ≤ 12) (w : List Int) (hw : w.length < 1000) (j : Nat) : ∀ (k : Nat) (last : Int),k + j = w.length → -1 ≤ last → (∀ y ∈ w.take k,y ≤ last) →
    ∃ M,exF LP ring_Turn.L0 [(1,FL nl ex 2 l),(9,.sl 0 0 l.length l.length 2 2 (l.length * 2)),(10,.int .i64 last),(21,IL nl' ex' sz w),(22,.int .i64 (w.length : Int)),(23,.int .i64 (k : Int))] [⟨pcI (twF (w.take k) 0 l),true⟩] =
      if chkW (l.length : Int) last (w.drop k) = 0 then some (.exit 0,[(9,.sl 0 0 l.length l.length 2 2 (l.length * 2))],[⟨pcI (twF w 0 l),true⟩]) else some (.ret,[(6,.lst true true 0 0 []),(7,.int .i64 (chkW (l.length : Int) last (w.drop k)))],M) := by
  have hwr : IntKind.i64.wrap ((l.length : Int) - 1) = (l.length : Int) - 1 := wrap_in (by omega)
  induction j with
  | zero =>
    intro k last hk _ _
    refine ⟨[],?_⟩
    rw [ring_Turn.L0_eq]
    simp only [ring_Turn.B0,exF_seq,exF_region,exF_cond,exF_exit,runL,wantL,stepL,evL,LEnv.at,putL,loadFine,LEnv.keep,List.map_cons,List.map_nil,nbeq,bin_lss,Nat.reduceEqDiff,decide_true,decide_false,cond_true,cond_false,if_true,eq_self,show ¬ ((k : Int) < (w.length : Int)) by omega,List.drop_eq_nil_of_le (show w.length ≤ k by omega),chkW,List.take_of_length_le (show w.length ≤ k by omega)]
  | succ j ih =>
    intro k last hk hlast hpre
    have h2 : k < w.length := by omega
    have hki : (k : Int) < (w.length : Int) := by omega
    rw [ring_Turn.L0_eq,List.drop_eq_getElem_cons h2,chkW]
    have hat := int_at .i64 w k h2
    by_cases c1 : 0 ≤ w[k] ∧ w[k] < (l.length : Int)
    · have e1 : inB 0 ((l.length : Int) - 1) w[k] = true := by simp only [inB]; rw [decide_eq_true_eq]; omega
      rw [if_pos c1]
      by_cases c2 : w[k] ≤ last
      · rw [if_pos c2]
        refine ⟨[⟨pcI (twF (w.take k) 0 l),true⟩],?_⟩
        simp only [ring_Turn.B0,exF_seq,exF_region,exF_block,exF_cond,exF_ret,exF_skip,runL,wantL,stepL,evL,evC,LEnv.at,putL,loadFine,loadL,cellsAt,Trk.putNew,Trk.up,Trk.touch,Trk.gives,Trk.calm,opdsOf,Trk.fresh,LEnv.keep,List.map_cons,List.map_nil,nbeq,nble,nblt,ofAVs,lenL,bin_sub,bin_lss,bin_leq,natL_nat,List.any_cons,List.any_nil,Bool.or_false,Bool.or_true,Bool.and_true,Bool.false_and,Bool.not_true,Bool.not_false,Nat.reduceEqDiff,decide_true,decide_false,cond_true,cond_false,List.filter_nil,Nat.reduceAdd,Nat.reduceLeDiff,List.length_nil,List.length_cons,Nat.mul_one,if_false,eq_self,List.append_nil,List.nil_append,unL,Int.reduceEq,hki,h2,hat,hwr,between_c,e1,c2]
        try rfl
      · rw [if_neg c2]
        obtain ⟨x,hx⟩ : ∃ x : Nat,w[k] = (x : Int) := ⟨w[k].toNat,by omega⟩
        have hxl : x < l.length := by omega
        have hxS : (x : Int) ∉ w.take k := fun c => by have := hpre _ c; omega
        obtain ⟨M,ih⟩ := ih (k + 1) w[k] (by omega) (by omega) (by
          intro y hy
          rw [take_snoc w k h2] at hy
          rcases List.mem_append.1 hy with hy | hy
          · have := hpre y hy; omega
          · rw [List.mem_singleton.1 hy]; omega)
        refine ⟨M,?_⟩
        have hset := twF_set (w.take k) l x hxl hxS
        have hgx : (twF (w.take k) 0 l)[x]? = some l[x] := by
          rw [twF_at,List.getElem?_eq_getElem hxl]
          simp [hxS]
        have hTl := twF_len (w.take k) l 0
        have hxT : x < (twF (w.take k) 0 l).length := by omega
        have hTx : (twF (w.take k) 0 l)[x] = l[x] := by
          rw [List.getElem?_eq_getElem hxT] at hgx
          exact Option.some.inj hgx
        rw [take_snoc w k h2,hx,← hset] at ih
        rw [hx] at hat c2 e1
        have s0 := pcI_0 _ x hxT
        have s1 := pcI_1 _ x hxT
        rw [hTx] at s0 s1
        have hlen := pcI_len (twF (w.take k) 0 l)
        rw [hTl] at hlen
        -- one store,and the other
        have f1 := flat_set1 pc 2 pc_len (twF (w.take k) 0 l) x hxT 0 (by omega) (.int .i64 l[x].2) (l[x].2,l[x].2) (by rw [hTx]; rfl)
        have f2 := flat_set1 pc 2 pc_len ((twF (w.take k) 0 l).set x (l[x].2,l[x].2)) x (by simpa using hxT) 1 (by omega) (.int .i64 l[x].1) (swp l[x]) (by simp [pc,swp])
        rw [List.set_set] at f2
        have f1 : (pcI (twF (w.take k) 0 l)).take (x * 2 + 0) ++ [.int .i64 l[x].2] ++ (pcI (twF (w.take k) 0 l)).drop (x * 2 + 0 + 1) = pcI ((twF (w.take k) 0 l).set x (l[x].2,l[x].2)) := f1
        have f2 : (pcI ((twF (w.take k) 0 l).set x (l[x].2,l[x].2))).take (x * 2 + 1) ++ [.int .i64 l[x].1] ++ (pcI ((twF (w.take k) 0 l).set x (l[x].2,l[x].2))).drop (x * 2 + 1 + 1) = pcI ((twF (w.take k) 0 l).set x (swp l[x])) := f2
        have hlen2 : (pcI ((twF (w.take k) 0 l).set x (l[x].2,l[x].2))).length = l.length * 2 := by rw [pcI_len,List.length_set,hTl]
        generalize hT0 : pcI (twF (w.take k) 0 l) = T0 at *
        generalize hT1 : pcI ((twF (w.take k) 0 l).set x (l[x].2,l[x].2)) = T1 at *
        generalize hT2 : pcI ((twF (w.take k) 0 l).set x (swp l[x])) = T2 at *
        simp only [Nat.add_zero] at f1
        simp only [ring_Turn.B0,exF_seq,exF_region,exF_block,exF_cond,exF_skip,runL,wantL,stepL,evL,evC,LEnv.at,putL,loadFine,loadL,cellsAt,Trk.putNew,Trk.up,Trk.touch,Trk.gives,Trk.calm,Trk.hit,opdsOf,Trk.fresh,LEnv.keep,List.map_cons,List.map_nil,nbeq,nble,nblt,ofAVs,lenL,bin_add,bin_sub,bin_lss,bin_leq,natL_nat,natL_zero,natL_one,List.any_cons,List.any_nil,Bool.or_false,Bool.or_true,Bool.and_true,Bool.false_and,Bool.not_true,Bool.not_false,Nat.reduceEqDiff,decide_true,decide_false,cond_true,cond_false,List.filter_nil,Nat.reduceAdd,Nat.reduceLeDiff,reduceCtorEq,List.length_nil,List.length_cons,Nat.mul_one,eq_self,List.append_nil,List.nil_append,unL,LV.cells,List.getElem?_cons_zero,storeL,spliceL,Nat.le_refl,List.set_cons_zero,LV.scalar,List.all_cons,List.all_nil,Nat.lt_add_one,Nat.reduceLT,hki,h2,hat,hwr,between_c,e1,c2,hxl,hlen,hlen2,Nat.zero_add,Nat.add_zero,s0,s1,f1,f2,show x * 2 + 1 ≤ l.length * 2 by omega,show x * 2 + 1 + 1 ≤ l.length * 2 by omega,wrap_succ (show k + 1 < 9223372036854775808 by omega),ih]
        rw [hx]
    · have e1 : inB 0 ((l.length : Int) - 1) w[k] = false := by simp only [inB]; rw [decide_eq_false_iff_not]; omega
      rw [if_neg c1]
      refine ⟨[⟨pcI (twF (w.take k) 0 l),true⟩],?_⟩
      simp only [ring_Turn.B0,exF_seq,exF_region,exF_block,exF_cond,exF_ret,exF_skip,runL,wantL,stepL,evL,evC,LEnv.at,putL,loadFine,loadL,cellsAt,Trk.putNew,Trk.up,Trk.touch,Trk.gives,Trk.calm,opdsOf,Trk.fresh,LEnv.keep,List.map_cons,List.map_nil,nbeq,nble,nblt,ofAVs,lenL,bin_sub,bin_lss,natL_nat,List.any_cons,List.any_nil,Bool.or_false,Bool.or_true,Bool.and_true,Bool.false_and,Bool.not_true,Bool.not_false,Nat.reduceEqDiff,decide_true,decide_false,cond_true,cond_false,List.filter_nil,Nat.reduceAdd,Nat.reduceLeDiff,List.length_nil,List.length_cons,Nat.mul_one,if_false,eq_self,List.append_nil,List.nil_append,unL,Int.reduceEq,hki,h2,hat,hwr,between_c,e1]
      try rfl
end Go.Am.Ring
set_option linter.unusedVariables false
set_option linter.unusedSimpArgs false
set_option maxRecDepth 10000
namespace Go.Am.Ring
open Go.Am.G
end Go.Am.Ring
set_option linter.unusedVariables false
set_option linter.unusedSimpArgs false
set_option maxRecDepth 10000
namespace Go.Am.Ring
open Go.Am.G
def st (P : List (Nat × Nat)) (i : Nat) : Nat := (P.getD i (0,0)).1
def en (P : List (Nat × Nat)) (i : Nat) : Nat := (P.getD i (0,0)).2
theorem getD_at {α : Type} (P : List α) (i : Nat) (d : α) (h : i < P.length) : P.getD i d = P[i] := by
  rw [List.getD_eq_getElem?_getD,List.getElem?_eq_getElem h]; rfl
theorem pcSE (P : List (Nat × Nat)) (i : Nat) (h : i < P.length) : ((pcI (P.map castP)).drop (i * 2)).take 2 = [.int .i64 ((st P i : Nat) : Int),.int .i64 ((en P i : Nat) : Int)] := by
  rw [pcN_seg P i h,st,en,getD_at P i _ h]
def freshB (P : List (Nat × Nat)) (b : List Nat) (i : Nat) : Bool := b.all fun k => !decide (st P k = st P i)
def ringsU (P : List (Nat × Nat)) : Nat → List Nat → List (List Nat)
  | 0,_ => []
  | u + 1,b => if en P (b.getLastD 0) = st P (b.headD 0) then [b] else
      (List.range' (b.headD 0 + 1) (P.length - (b.headD 0 + 1))).flatMap fun i => if st P i = en P (b.getLastD 0) ∧ freshB P b i = true then ringsU P u (b ++ [i]) else []
end Go.Am.Ring
set_option linter.unusedVariables false
set_option linter.unusedSimpArgs false
set_option maxRecDepth 10000
namespace Go.Am.Ring
open Go.Am.G
theorem nodup_le : ∀ (s t : List Nat),s.Nodup → (∀ x ∈ s,x ∈ t) → s.length ≤ t.length
  | [],t,_,_ => by simp
  | a :: s,t,hs,ht => by
    have hs := List.nodup_cons.1 hs
    have := nodup_le s (t.erase a) hs.2 (fun x hx => by
      have hxa : x ≠ a := fun e => hs.1 (e ▸ hx)
      exact (List.mem_erase_of_ne hxa).2 (ht x (by simp [hx])))
    have ha := ht a (by simp)
    rw [List.length_erase_of_mem ha] at this
    have hp := List.length_pos_of_mem ha
    simp; omega
structure Beg (n : Nat) (P : List (Nat × Nat)) (b : List Nat) : Prop where
  ne : b ≠ []
  lt : ∀ k ∈ b,k < P.length
  nd : (b.map (st P)).Nodup
theorem st_lt {n : Nat} {P : List (Nat × Nat)} (G : Good n P) {k : Nat} (h : k < P.length) : st P k < n ∧ en P k < n ∧ st P k ≠ en P k := by
  unfold st en
  rw [getD_at P k _ h]
  exact ⟨(G.lt _ (List.getElem_mem h)).1,(G.lt _ (List.getElem_mem h)).2,G.ne _ (List.getElem_mem h)⟩
theorem Beg.len {n : Nat} {P : List (Nat × Nat)} (G : Good n P) {b : List Nat} (B : Beg n P b) : b.length ≤ 6 := by
  have := nodup_le (b.map (st P)) (List.range n) B.nd (fun x hx => by
    obtain ⟨k,hk,rfl⟩ := List.mem_map.1 hx
    exact List.mem_range.2 (st_lt G (B.lt k hk)).1)
  simp at this
  have := G.le6
  omega
theorem Beg.snoc {n : Nat} {P : List (Nat × Nat)} {b : List Nat} (B : Beg n P b) {i : Nat} (hi : i < P.length) (hf : freshB P b i = true) : Beg n P (b ++ [i]) := by
  refine ⟨by simp,?_,?_⟩
  · intro k hk
    rcases List.mem_append.1 hk with h | h
    · exact B.lt k h
    · rw [List.mem_singleton.1 h]; exact hi
  · rw [List.map_append,List.nodup_append]
    refine ⟨B.nd,by simp,?_⟩
    intro x hx y hy
    simp at hy
    subst hy
    obtain ⟨k,hk,rfl⟩ := List.mem_map.1 hx
    unfold freshB at hf
    rw [List.all_eq_true] at hf
    simpa using hf k hk
theorem head_at (b : List Nat) (h : 0 < b.length) : b[0] = b.headD 0 := by
  cases b with
  | nil => simp at h
  | cons a t => rfl
theorem last_el (b : List Nat) (h : b.length - 1 < b.length) : b[b.length - 1] = b.getLastD 0 := by
  rw [List.getLastD_eq_getLast?,List.getLast?_eq_getElem?,List.getElem?_eq_getElem h]; rfl
def allR (P : List (Nat × Nat)) : List (List Nat) := (List.range P.length).flatMap fun i => ringsU P 6 [i]
end Go.Am.Ring
