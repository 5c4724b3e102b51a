import Derived.Test.YtheppipmnfjdcaaDoorRdC22
import Derived.Test.YtheppipmnfjdcaaDoorRdC15
set_option linter.unusedVariables false
set_option linter.unusedSimpArgs false
set_option maxRecDepth 10000
namespace Go.Am.Ring
open Go.Am.G
theorem rings_loop {σ : Type} {N : Nat} (X : RVis σ N) {n : Nat} {P : List (Nat × Nat)} (G : Good n P) {nl ex : Bool} {sz w : Nat} {β : Nat → Nat} {keys : List Nat} (j : Nat) : ∀ (k : Nat) (s : σ) (O : List Nat) (m : LMem),k + j = P.length → WB X P (FN nl ex sz P) w β keys m → X.I s O m → Cl m → (∀ i ∈ O,i < N ∨ w < i) → X.size s + ((List.range' k j).flatMap fun i => ringsU P 6 [i]).length ≤ 100000000 →
    ∃ m' O',exF LP ring_rings.L1 [(7,.ptr w 0 1),(30,FN nl ex sz P),(31,.int .i64 (P.length : Int)),(32,.int .i64 (k : Int))] m = some (.exit 2,[],m') ∧ X.I (((List.range' k j).flatMap fun i => ringsU P 6 [i]).foldl X.vis s) O' m' ∧ Exn m m' O ∧ ∀ i ∈ O',i ∈ O ∨ m.length ≤ i := by
  have h12 := G.le12
  have h6 := G.le6
  induction j with
  | zero =>
    intro k s O m hk hW hI hC hO hs
    obtain rfl : k = P.length := by omega
    refine ⟨m,O,?_,hI,Exn.rfl' m O,fun i hi => .inl hi⟩
    rw [ring_rings.L1_eq]
    simp only [ring_rings.B1,exF_seq,exF_region,exF_cond,exF_exit,runL,wantL,stepL,evL,LEnv.at,putL,loadFine,LEnv.keep,List.map_cons,List.map_nil,nbeq,bin_lss,Nat.reduceEqDiff,decide_true,decide_false,cond_true,cond_false,eq_self,show ¬ ((P.length : Int) < (P.length : Int)) by omega]
  | succ j ih =>
    intro k s O m hk hW hI hC hO hs
    have h2 : k < P.length := by omega
    have hkk : (k : Int) < (P.length : Int) := by omega
    have hwk := wrap_succ (show k + 1 < 9223372036854775808 by omega)
    have hwl := get_lt hW.fw
    have hw3 := hW.hw
    have seg := pcSE P k h2
    have ok := pcN_ok P k h2
    have hst := (st_lt G h2).1
    have hshl := sshl (show st P k < 32 by omega)
    have hm1 : metB P [k] = 2 ^ st P k := by simp [metB]
    rw [List.range'_succ,List.flatMap_cons] at hs ⊢
    rw [List.length_append] at hs
    rw [List.foldl_append]
    let pr : LBlk := ⟨[.int .i64 ((st P k : Nat) : Int),.int .i64 ((en P k : Nat) : Int)],true⟩
    have hE0 : Exn m (m ++ [pr]) O := Exn.app O fun j => rfl
    have hI0 : X.I s O (m ++ [pr]) := X.hI s O m _ hI fun i hi => by rw [List.getElem?_append_left (X.hlt s O m hI i hi)]
    have hW0 : WB X P (FN nl ex sz P) w β keys (m ++ [pr]) := hW.mono fun i _ hi => by rw [List.getElem?_append_left (by omega)]
    obtain ⟨m1,O1,hc,hI1,hE1,hO1⟩ := walk_c X G 6 [k] ⟨by simp,by simpa using h2,by simp⟩ rfl s O (m ++ [pr]) (.lst false true 1 1 (ints (ci [k]))) hW0 hI0 (hE0.cl hC) hO (.inl ⟨rfl,rfl⟩) (by omega)
    have hE2 : Exn m m1 O := hE0.trans hE1 fun i hi => .inl hi
    have hO2 : ∀ i ∈ O1,i ∈ O ∨ m.length ≤ i := fun i hi => by
      rcases hO1 i hi with h | h
      · exact .inl h
      · simp at h; exact .inr (by omega)
    rw [hm1] at hc
    have hE3 := hE2.trim (envVals [(7,.ptr w 0 1),(30,FN nl ex sz P),(31,.int .i64 (P.length : Int)),(32,.int .i64 ((k + 1 : Nat) : Int))])
    have hI3 := X.trim hI1 m.length (by omega) (envVals [(7,.ptr w 0 1),(30,FN nl ex sz P),(31,.int .i64 (P.length : Int)),(32,.int .i64 ((k + 1 : Nat) : Int))])
    have hszl := X.hszl (ringsU P 6 [k]) s
    obtain ⟨m',O',hex,hI',hE',hO'⟩ := ih (k + 1) _ O1 _ (by omega) (hW.mono fun i h1 h2 => hE3.keep i (by omega) fun h => by rcases hO i h with h | h <;> omega) hI3 (hE3.cl hC) (fun i hi => by
      rcases hO2 i hi with h | h
      · exact hO i h
      · exact .inr (by omega)) (by omega)
    refine ⟨m',O',?_,hI',hE3.trans hE' hO2,fun i hi => ?_⟩
    · have fw : ∀ b : LBlk,(m ++ [b])[w]? = some ⟨[.func n_ring_rings_1 [] [.ptr N 0 1,.ptr (N + 1) 0 1,.ptr (N + 3) 0 1,.ptr w 0 1]],true⟩ := fun b => by rw [List.getElem?_append_left (by omega)]; exact hW.fw
      rw [ring_rings.L1_eq]
      simp only [FN_eq,List.map_cons,List.map_nil] at hex hc ⊢
      simp only [pr] at hc
      simp only [ring_rings.B1,exF_seq,exF_region,exF_block,exF_cond,exF_skip,runL,wantL,stepL,evL,evC,LEnv.at,putL,loadFine,loadL,cellsAt,Trk.putNew,Trk.up,Trk.touch,Trk.gives,Trk.calm,Trk.hit,opdsOf,Trk.fresh,LEnv.keep,List.map_cons,List.map_nil,nbeq,nble,nblt,ofAV,ofAVs,bin_add,bin_lss,natL_nat,natL_zero,List.any_cons,List.any_nil,Bool.or_false,Bool.or_true,Bool.and_true,Bool.false_and,Bool.not_true,Bool.not_false,Nat.reduceEqDiff,decide_true,decide_false,cond_true,cond_false,List.filter_nil,List.filter_cons,Nat.reduceAdd,Nat.reduceLeDiff,reduceCtorEq,List.length_nil,List.length_cons,Nat.mul_one,if_true,eq_self,List.append_nil,List.nil_append,List.cons_append,unL,LV.pures,LV.pure,freeze,Nat.reduceDiv,LV.cells,allocL,List.getElem?_cons_zero,storeL,spliceL,List.take_zero,List.take_succ_cons,List.drop_zero,List.drop_succ_cons,List.drop_nil,List.take_nil,Nat.le_refl,LV.scalar,List.all_cons,List.all_nil,Nat.reduceLT,fillL,List.length_append,hkk,h2,seg,ok,set_last,get_last,show ¬ m.length + 1 ≤ w by omega,show ¬ m.length + 1 ≤ m.length by omega,fw,views,viewL,hshl,hc,hwk,hex]
    · rcases hO' i hi with h | h
      · exact hO2 i h
      · exact .inr (by have := hE3.len; omega)
theorem rings_c {σ : Type} {m : LMem} (X : RVis σ m.length) {n : Nat} {P : List (Nat × Nat)} (G : Good n P) (nl ex : Bool) (sz : Nat) (s : σ) (O : List Nat) (hI : X.I s O m) (hC : Cl m) (hf : LV.under m.length (.func X.f X.first X.cap) = true) (hs : X.size s = 0) :
    ∃ m' O',clF LP n_ring_rings [FN nl ex sz P,.func X.f X.first X.cap] m = some (.W,.tup [],m') ∧ X.I ((allR P).foldl X.vis s) O' m' := by
  have hlt := X.hlt s O m hI
  let m1 : LMem := m ++ [⟨[FN nl ex sz P],true⟩] ++ [⟨[.func X.f X.first X.cap],true⟩] ++ [⟨[.ents []],true⟩] ++ [⟨[.map (m.length + 2)],true⟩]
  have l1 : m1.length = m.length + 4 := by simp [m1]
  have g0 : m1[m.length]? = some ⟨[FN nl ex sz P],true⟩ := by simp [m1]
  have g1 : m1[m.length + 1]? = some ⟨[.func X.f X.first X.cap],true⟩ := by simp [m1]
  have g2 : m1[m.length + 2]? = some ⟨[.ents []],true⟩ := by simp [m1]
  have g3 : m1[m.length + 3]? = some ⟨[.map (m.length + 2)],true⟩ := by simp [m1]
  have J1 : FJ P m.length 0 (FN nl ex sz P) (.func X.f X.first X.cap) (fun _ => 0) [] m1 := ⟨g0,g1,by rw [g2]; rfl,g3,by simp,fun x _ => by simp [frmK],fun x hx => by simp at hx,fun x hx => by simp at hx⟩
  have C1 : Cl m1 := by
    intro i hi
    rw [l1] at hi
    refine NR.app (NR.app (NR.app (NR.app (hC i (by omega)) rfl) ?_) rfl) ?_
    · simp only [LV.noRefs,Bool.and_true]; exact under_noRef (by omega) hf
    · simp only [LV.noRefs,LV.noRef,nbeq,Bool.and_true,Bool.not_eq_true',decide_eq_false_iff_not]; omega
  obtain ⟨m2,β,keys,hex1,J2,C2,l2,k2⟩ := from_loop P G.le12 nl ex sz m.length (.func X.f X.first X.cap) P.length 0 m1 _ _ (by omega) J1 C1 (by omega)
  have k12 : ∀ i,i < m.length → m1[i]? = m[i]? := fun i hi => by simp only [m1]; rw [List.getElem?_append_left (by simp; omega),List.getElem?_append_left (by simp; omega),List.getElem?_append_left (by simp; omega),List.getElem?_append_left (by omega)]
  let m3 : LMem := m2 ++ [⟨[.func n_ring_rings_1 [] [.ptr m.length 0 1,.ptr (m.length + 1) 0 1,.ptr (m.length + 3) 0 1,.ptr m2.length 0 1]],true⟩]
  have up3 : ∀ i,i < m2.length → m3[i]? = m2[i]? := fun i hi => by simp only [m3]; rw [List.getElem?_append_left hi]
  have W3 : WB X P (FN nl ex sz P) m2.length β keys m3 := by
    refine ⟨⟨by rw [up3 _ (by omega)]; exact J2.f0,by rw [up3 _ (by omega)]; exact J2.f1,by rw [up3 _ (by omega)]; exact J2.f2,by rw [up3 _ (by omega)]; exact J2.f3,J2.nd,J2.cov,fun x hx => ?_,J2.inj⟩,by omega,get_last _ _,fun x hx => get_lt (J2.blk x hx).2.2⟩
    obtain ⟨d1,d2,d3⟩ := J2.blk x hx
    exact ⟨d1,d2,by rw [up3 _ (get_lt d3)]; exact d3⟩
  have C3 : Cl m3 := by
    intro i hi
    simp only [m3,List.length_append,List.length_singleton] at hi
    refine NR.app (C2 i (by omega)) ?_
    simp only [LV.noRefs,LV.noRef,nbeq,Bool.and_true,Bool.true_and,Bool.and_eq_true,Bool.not_eq_true',decide_eq_false_iff_not]
    omega
  have I3 : X.I s O m3 := X.hI s O m m3 hI fun i hi => by have := hlt i hi; rw [up3 i (by omega),k2 i this,k12 i this]
  have hal := allR_len G
  have hall : allR P = (List.range' 0 P.length).flatMap fun i => ringsU P 6 [i] := by rw [allR,List.range_eq_range']
  rw [hall] at hal
  obtain ⟨m4,O',hex2,hI4,hE4,hO4⟩ := rings_loop X G P.length 0 s O m3 (by omega) W3 I3 C3 (fun i hi => .inl (hlt i hi)) (by omega)
  rw [← hall] at hI4
  refine ⟨trim m.length [.tup []] m4,O',?_,X.trim hI4 _ (Nat.le_refl _) _⟩
  refine call_W lp_ring_rings rfl ?_
  have f0 := J2.f0
  have nn : ¬ m2.length ≤ m.length := by omega
  have s0 : ((m2 ++ [⟨[LV.nilFunc],true⟩] : LMem).set m2.length ⟨[.func n_ring_rings_1 [] [.ptr m.length 0 1,.ptr (m.length + 1) 0 1,.ptr (m.length + 3) 0 1,.ptr m2.length 0 1]],true⟩) = m3 := set_last _ _ _
  have s1 : ((m ++ [⟨[FN nl ex sz P],true⟩] ++ [⟨[.func X.f X.first X.cap],true⟩] ++ [⟨[.ents []],true⟩] ++ [⟨[LV.nilmap],true⟩] : LMem).set (m.length + 3) ⟨[.map (m.length + 2)],true⟩) = m1 := by
    have := set_last (m ++ [⟨[FN nl ex sz P],true⟩] ++ [⟨[.func X.f X.first X.cap],true⟩] ++ [⟨[.ents []],true⟩]) ⟨[LV.nilmap],true⟩ ⟨[.map (m.length + 2)],true⟩
    refine Eq.trans ?_ this
    congr 1
    simp
  have s2 : ((m ++ [⟨[FN nl ex sz P],true⟩] ++ [⟨[.func X.f X.first X.cap],true⟩] ++ [⟨[.ents []],true⟩] ++ [⟨[LV.nilmap],true⟩] : LMem))[m.length + 3]? = some ⟨[LV.nilmap],true⟩ := by simp
  have f03 : m3[m.length]? = some ⟨[FN nl ex sz P],true⟩ := by rw [up3 _ (by omega)]; exact f0
  have gl : ((m2 ++ [⟨[LV.nilFunc],true⟩] : LMem))[m2.length]? = some ⟨[LV.nilFunc],true⟩ := get_last _ _
  have e1 : ∀ a : LBlk,(m ++ [a]).length = m.length + 1 := fun a => by simp
  have e2 : ∀ a b : LBlk,(m ++ [a] ++ [b]).length = m.length + 2 := fun a b => by simp
  have e3 : ∀ a b c : LBlk,(m ++ [a] ++ [b] ++ [c]).length = m.length + 3 := fun a b c => by simp
  simp only [Int.natCast_zero] at hex1 hex2
  simp only [FN_eq] at hex1 hex2 s1 s2 f0 f03 g0 ⊢
  simp only [ring_rings,ring_rings.B,exF_seq,exF_region,exF_block,runL,wantL,stepL,evL,evC,LEnv.at,putL,loadFine,loadL,cellsAt,Trk.calm,Trk.hit,LEnv.keep,LEnv.ofFrom,List.map_cons,List.map_nil,nbeq,nble,ofAV,ofAVs,lenL,List.any_nil,Bool.or_false,Bool.false_or,Bool.true_or,Bool.or_true,Bool.and_true,Bool.false_and,Bool.not_true,Bool.not_false,Nat.reduceEqDiff,decide_true,decide_false,cond_true,cond_false,Nat.reduceAdd,Nat.reduceLeDiff,reduceCtorEq,List.length_nil,List.length_cons,eq_self,retL,resultsL,resAllL,List.append_nil,List.nil_append,LV.cells,allocL,List.getElem?_cons_zero,storeL,spliceL,List.take_zero,List.take_succ_cons,List.drop_zero,List.drop_succ_cons,List.drop_nil,List.take_nil,Nat.le_refl,LV.scalar,List.all_cons,List.all_nil,e1,e2,e3,s1,s2,g0,show ¬ m1.length ≤ m.length by omega,hex1,gl,s0,f03,hex2]
end Go.Am.Ring
set_option linter.unusedVariables false
set_option linter.unusedSimpArgs false
set_option maxRecDepth 10000
namespace Go.Am.Ring
open Go.Am.G
end Go.Am.Ring
set_option linter.unusedVariables false
set_option linter.unusedSimpArgs false
set_option maxRecDepth 10000
namespace Go.Am.Ring
open Go.Am.G
theorem rowN_at (R : List (List Nat)) (i : Nat) (h : i < R.length) : (rows R)[i]? = some (rlv (ci R[i])) := by rw [List.getElem?_map,List.getElem?_eq_getElem h]; rfl
def idxI (x : Int) : List Int → Nat → Int
  | [],_ => -1
  | a :: r,k => if x = a then (k : Int) else idxI x r (k + 1)
theorem idxI_mem (x : Int) : ∀ (l : List Int) (k : Nat),(0 ≤ idxI x l k) ↔ x ∈ l
  | [],k => by simp [idxI]
  | a :: r,k => by
    rw [idxI]
    by_cases h : x = a
    · simp [h]
    · simp [h,idxI_mem x r (k + 1)]
theorem index_loop (nl ex : Bool) (sz : Nat) (l : List Int) (x : Int) (hl : l.length < 1000000) (n : Nat) : ∀ k,k + n = l.length →
    exF LP slices_Index_int_int.L0 [(0,IL nl ex sz l),(1,.int .i64 x),(7,.int .i64 (l.length : Int)),(8,.int .i64 (k : Int))] [] =
      if idxI x (l.drop k) k < 0 then some (.exit 0,[],[]) else some (.ret,[(4,.int .i64 (idxI x (l.drop k) k))],[]) := by
  induction n with
  | zero =>
    intro k hk
    rw [slices_Index_int_int.L0_eq]
    simp only [slices_Index_int_int.B0,exF_seq,exF_region,exF_cond,exF_exit,runL,wantL,stepL,evL,LEnv.at,putL,loadFine,LEnv.keep,List.map_cons,List.map_nil,nbeq,bin_lss,Nat.reduceEqDiff,decide_true,decide_false,cond_true,cond_false,reduceCtorEq,eq_self,show ¬ ((k : Int) < (l.length : Int)) by omega]
    simp [List.drop_eq_nil_of_le (show l.length ≤ k by omega),idxI]
  | succ n ih =>
    intro k hk
    have h2 : k < l.length := by omega
    rw [slices_Index_int_int.L0_eq,List.drop_eq_getElem_cons h2,idxI]
    have hn : ¬ ((k : Int) < 0) := by omega
    by_cases he : x = l[k]
    · simp only [slices_Index_int_int.B0,exF_seq,exF_region,exF_block,exF_cond,exF_ret,exF_skip,runL,wantL,stepL,evL,LEnv.at,putL,loadFine,loadL,cellsAt,Trk.putNew,Trk.up,Trk.touch,Trk.gives,Trk.calm,opdsOf,Trk.fresh,LEnv.keep,List.map_cons,List.map_nil,nbeq,nble,nblt,bin_eql,bin_lss,natL_nat,List.any_cons,List.any_nil,Bool.or_false,Bool.or_true,Bool.and_true,Bool.false_and,Bool.not_true,Bool.not_false,Nat.reduceEqDiff,decide_true,decide_false,cond_true,cond_false,List.filter_nil,Nat.reduceAdd,Nat.reduceLeDiff,reduceCtorEq,List.length_nil,Nat.mul_one,if_true,if_false,eq_self,show ((k : Int) < (l.length : Int)) by omega,h2,int_at _ _ _ h2,he,hn]
    · simp only [slices_Index_int_int.B0,exF_seq,exF_region,exF_block,exF_cond,exF_skip,runL,wantL,stepL,evL,evC,LEnv.at,putL,loadFine,loadL,cellsAt,Trk.putNew,Trk.up,Trk.touch,Trk.gives,Trk.calm,opdsOf,Trk.fresh,LEnv.keep,List.map_cons,List.map_nil,nbeq,nble,nblt,bin_add,bin_eql,bin_lss,natL_nat,List.any_cons,List.any_nil,Bool.or_false,Bool.or_true,Bool.and_true,Bool.false_and,Bool.not_true,Bool.not_false,Nat.reduceEqDiff,decide_true,decide_false,cond_true,cond_false,List.filter_nil,Nat.reduceAdd,Nat.reduceLeDiff,reduceCtorEq,List.length_nil,Nat.mul_one,if_false,eq_self,show ((k : Int) < (l.length : Int)) by omega,h2,int_at _ _ _ h2,he,wrap_succ (show k + 1 < 9223372036854775808 by omega),ih (k + 1) (by omega)]
theorem index_c (nl ex : Bool) (sz : Nat) (l : List Int) (x : Int) (hl : l.length < 1000000) (m : LMem) : clF LP n_slices_Index_int_int [IL nl ex sz l,.int .i64 x] m = some (.P,.int .i64 (idxI x l 0),m) := by
  refine call_P lp_slices_Index_int_int rfl (by simp [LV.pures,LV.pure]) (m1 := []) ?_ rfl m
  have h := index_loop nl ex sz l x hl l.length 0 (by omega)
  simp only [Int.natCast_zero,List.drop_zero] at h
  by_cases hc : idxI x l 0 < 0
  · have : idxI x l 0 = -1 := by
      have : ∀ (l : List Int) (k : Nat),idxI x l k < 0 → idxI x l k = -1 := by
        intro l
        induction l with
        | nil => intro k _; rfl
        | cons a r ih => intro k h; rw [idxI] at h ⊢; split at h <;> rename_i c <;> simp only [c,if_true,if_false] at * <;> first | omega | exact ih _ h
      exact this l 0 hc
    simp only [slices_Index_int_int,slices_Index_int_int.B,exF_seq,exF_region,exF_block,exF_ret,runL,wantL,stepL,evL,evC,LEnv.at,putL,loadFine,LEnv.keep,LEnv.ofFrom,List.map_cons,List.map_nil,nbeq,lenL,Nat.reduceEqDiff,decide_true,decide_false,cond_true,cond_false,Nat.reduceAdd,reduceCtorEq,if_true,eq_self,retL,resultsL,resAllL,resOfL,h,hc]
    rw [this]
  · simp only [slices_Index_int_int,slices_Index_int_int.B,exF_seq,exF_region,exF_block,runL,wantL,stepL,evL,evC,LEnv.at,putL,loadFine,LEnv.keep,LEnv.ofFrom,List.map_cons,List.map_nil,nbeq,lenL,Nat.reduceEqDiff,decide_true,decide_false,cond_true,cond_false,Nat.reduceAdd,reduceCtorEq,if_false,eq_self,retL,resultsL,resAllL,resOfL,h,hc]
theorem contains_c (nl ex : Bool) (sz : Nat) (l : List Int) (x : Int) (hl : l.length < 1000000) (m : LMem) : clF LP n_slices_Contains_int_int [IL nl ex sz l,.int .i64 x] m = some (.P,.bool (decide (x ∈ l)),m) := by
  refine call_P lp_slices_Contains_int_int rfl (by simp [LV.pures,LV.pure]) (m1 := []) ?_ rfl m
  have h := fun m => index_c nl ex sz l x hl m
  have h2 := idxI_mem x l 0
  simp only [slices_Contains_int_int,slices_Contains_int_int.B,exF_seq,exF_region,exF_ret,runL,wantL,stepL,evL,evC,LEnv.at,putL,loadFine,LEnv.keep,LEnv.ofFrom,List.map_cons,List.map_nil,nbeq,ofAVs,bin_geq,Nat.reduceEqDiff,decide_true,decide_false,cond_true,cond_false,Nat.reduceAdd,reduceCtorEq,eq_self,retL,resultsL,resAllL,resOfL,List.append_nil,List.nil_append,h]
  rw [decide_eq_decide.2 h2]
def minF (x y : Int) : Int := if y < x then y else x
theorem min_loop (nl ex : Bool) (sz : Nat) (l : List Int) (hl : l.length < 1000000) (n : Nat) : ∀ (k : Nat) (x : Int),k + n = l.length →
    exF LP slices_Min_int_int.L0 [(0,IL nl ex sz l),(3,.int .i64 x),(4,.int .i64 (k : Int))] [] = some (.exit 0,[(3,.int .i64 ((l.drop k).foldl minF x))],[]) := by
  induction n with
  | zero =>
    intro k x hk
    rw [slices_Min_int_int.L0_eq,List.drop_eq_nil_of_le (by omega)]
    simp only [slices_Min_int_int.B0,exF_seq,exF_region,exF_cond,exF_exit,runL,wantL,stepL,evL,LEnv.at,putL,loadFine,LEnv.keep,List.map_cons,List.map_nil,nbeq,lenL,bin_lss,Nat.reduceEqDiff,decide_true,decide_false,cond_true,cond_false,reduceCtorEq,eq_self,show ¬ ((k : Int) < (l.length : Int)) by omega,List.foldl_nil]
  | succ n ih =>
    intro k x hk
    have h2 : k < l.length := by omega
    have ih := ih (k + 1) (minF x l[k]) (by omega)
    rw [slices_Min_int_int.L0_eq,List.drop_eq_getElem_cons h2,List.foldl_cons]
    simp only [minF] at ih ⊢
    simp only [slices_Min_int_int.B0,exF_seq,exF_region,exF_block,exF_cond,exF_skip,runL,wantL,stepL,evL,evC,LEnv.at,putL,loadFine,loadL,cellsAt,Trk.putNew,Trk.up,Trk.touch,Trk.gives,Trk.calm,opdsOf,Trk.fresh,LEnv.keep,List.map_cons,List.map_nil,nbeq,nble,nblt,lenL,bin_add,bin_lss,natL_nat,List.any_cons,List.any_nil,Bool.or_false,Bool.or_true,Bool.and_true,Bool.false_and,Bool.not_true,Bool.not_false,Nat.reduceEqDiff,decide_true,decide_false,cond_true,cond_false,List.filter_nil,Nat.reduceAdd,Nat.reduceLeDiff,reduceCtorEq,List.length_nil,Nat.mul_one,eq_self,foldIntL,kind_beq,show ((k : Int) < (l.length : Int)) by omega,h2,int_at _ _ _ h2,wrap_succ (show k + 1 < 9223372036854775808 by omega),ih]
theorem min_c (nl ex : Bool) (sz : Nat) (a : Int) (l : List Int) (hl : (a :: l).length < 1000000) (m : LMem) : clF LP n_slices_Min_int_int [IL nl ex sz (a :: l)] m = some (.P,.int .i64 (l.foldl minF a),m) := by
  refine call_P lp_slices_Min_int_int rfl (by simp [LV.pures,LV.pure]) (m1 := []) ?_ rfl m
  have h := min_loop nl ex sz (a :: l) hl l.length 1 a (by simp; omega)
  rw [List.drop_succ_cons,List.drop_zero] at h
  simp only [Int.natCast_one] at h
  have h1 : ¬ ((((a :: l).length : Nat) : Int) < 1) := by simp; omega
  have h2 : 0 < (a :: l).length := by simp
  have h3 : ((a :: l).map (LV.int .i64))[0]? = some (.int .i64 a) := rfl
  simp only [IL] at h ⊢
  generalize (a :: l).map (LV.int .i64) = row at *
  generalize (a :: l).length = L at *
  simp only [slices_Min_int_int,slices_Min_int_int.B,exF_seq,exF_region,exF_block,exF_cond,exF_ret,exF_skip,runL,wantL,stepL,evL,evC,LEnv.at,putL,loadFine,loadL,cellsAt,Trk.putNew,Trk.up,Trk.touch,Trk.gives,Trk.calm,opdsOf,Trk.fresh,LEnv.keep,LEnv.ofFrom,List.map_cons,List.map_nil,nbeq,nble,nblt,lenL,bin_lss,natL_zero,List.any_cons,List.any_nil,Bool.or_false,Bool.or_true,Bool.and_true,Bool.false_and,Bool.not_true,Bool.not_false,Nat.reduceEqDiff,decide_true,decide_false,cond_true,cond_false,List.filter_nil,Nat.reduceAdd,Nat.reduceLeDiff,reduceCtorEq,List.length_nil,Nat.mul_one,eq_self,retL,resultsL,resAllL,resOfL,List.drop_zero,h1,h2,h3,h]
theorem minF_le : ∀ (l : List Int) (a : Int),l.foldl minF a ≤ a ∧ ∀ x ∈ l,l.foldl minF a ≤ x
  | [],a => by simp
  | b :: l,a => by
    have h1 : minF a b ≤ a ∧ minF a b ≤ b := by unfold minF; split <;> omega
    obtain ⟨h2,h3⟩ := minF_le l (minF a b)
    rw [List.foldl_cons]
    refine ⟨by omega,fun x hx => ?_⟩
    rcases List.mem_cons.1 hx with rfl | hx
    · omega
    · exact h3 x hx
theorem minF_eq (l : List Int) (a : Int) : l.foldl minF a = a ↔ ∀ x ∈ l,a ≤ x := by
  constructor
  · intro h x hx
    have := (minF_le l a).2 x hx
    omega
  · intro h
    have key : ∀ (l : List Int),(∀ x ∈ l,a ≤ x) → l.foldl minF a = a := by
      intro l
      induction l with
      | nil => intro _; rfl
      | cons b l ih =>
        intro h
        have : minF a b = a := by
          have := h b (by simp)
          unfold minF; rw [if_neg (by omega)]
        rw [List.foldl_cons,this]
        exact ih fun x hx => h x (by simp [hx])
    exact key l h
end Go.Am.Ring
set_option linter.unusedVariables false
set_option linter.unusedSimpArgs false
set_option maxRecDepth 10000
namespace Go.Am.Ring
open Go.Am.G
theorem chain_iff {P : List (Nat × Nat)} : ∀ (R : List Nat),Chain P R ↔ ∀ k (h : k + 1 < R.length),en P R[k] = st P R[k + 1]
  | [] => by simp [Chain]
  | [x] => by simp [Chain]
  | x :: y :: R => by
    have ih := chain_iff (P := P) (y :: R)
    have e : Chain P (x :: y :: R) ↔ en P x = st P y ∧ Chain P (y :: R) := Iff.rfl
    rw [e,ih]
    constructor
    · rintro ⟨h1,h2⟩ k h
      cases k with
      | zero => exact h1
      | succ k => exact h2 k (by simpa using h)
    · intro h
      exact ⟨h 0 (by simp),fun k hk => h (k + 1) (by simpa using hk)⟩
def cyF (P : List (Nat × Nat)) (R : List Nat) : Nat → Nat → Bool
  | 0,_ => true
  | j + 1,k => if (metB P (R.take k)).testBit (st P (R.getD k 0)) = true ∨ en P (R.getD k 0) ≠ st P (R.getD ((k + 1) % R.length) 0) then false else cyF P R j (k + 1)
theorem cyF_iff (P : List (Nat × Nat)) (R : List Nat) : ∀ (j k : Nat),cyF P R j k = true ↔ ∀ i,k ≤ i → i < k + j → (metB P (R.take i)).testBit (st P (R.getD i 0)) = false ∧ en P (R.getD i 0) = st P (R.getD ((i + 1) % R.length) 0)
  | 0,k => by simp [cyF]; intro i h1 h2; omega
  | j + 1,k => by
    rw [cyF]
    split
    · rename_i h
      simp only [Bool.false_eq_true,false_iff]
      intro hc
      obtain ⟨h1,h2⟩ := hc k (Nat.le_refl _) (by omega)
      rcases h with h | h
      · rw [h1] at h; cases h
      · exact h h2
    · rename_i h
      rw [not_or,ne_eq,Decidable.not_not,Bool.not_eq_true] at h
      rw [cyF_iff P R j (k + 1)]
      constructor
      · intro hc i h1 h2
        rcases Nat.eq_or_lt_of_le h1 with rfl | h3
        · exact h
        · exact hc i h3 (by omega)
      · intro hc i h1 h2
        exact hc i (by omega) (by omega)
theorem metB_mem (P : List (Nat × Nat)) (b : List Nat) (x : Nat) : (metB P b).testBit x = false ↔ ∀ k ∈ b,st P k ≠ x := by
  rw [metB,metB_bit]
  simp
theorem cyc_iff {P : List (Nat × Nat)} {R : List Nat} (hne : R ≠ []) (hlt : ∀ k ∈ R,k < P.length) : Cyc P R ↔ cyF P R R.length 0 = true := by
  have hpos : 0 < R.length := List.length_pos_iff.2 hne
  rw [cyF_iff]
  have hg : ∀ i (h : i < R.length),R.getD i 0 = R[i] := fun i h => getD_at R i 0 h
  constructor
  · intro C i _ hi
    rw [Nat.zero_add] at hi
    rw [hg i hi]
    refine ⟨?_,?_⟩
    · rw [metB_mem]
      intro k hk e
      have hnd := C.nd
      have hs : R = R.take i ++ R[i] :: R.drop (i + 1) := by rw [← List.drop_eq_getElem_cons hi,List.take_append_drop]
      rw [hs,List.map_append,List.nodup_append] at hnd
      exact hnd.2.2 _ (List.mem_map.2 ⟨k,hk,rfl⟩) (st P R[i]) (List.mem_map.2 ⟨R[i],List.mem_cons_self ..,rfl⟩) e
    · by_cases c : i + 1 < R.length
      · rw [Nat.mod_eq_of_lt c,hg _ c]
        exact (chain_iff R).1 C.ch i c
      · have e : i + 1 = R.length := by omega
        rw [e,Nat.mod_self,hg 0 hpos]
        have := C.cl
        rw [← last_el R (by omega),← head_at R hpos] at this
        have e2 : i = R.length - 1 := by omega
        simp only [e2]
        exact this
  · intro h
    refine ⟨hne,hlt,?_,?_,?_⟩
    · rw [List.Nodup,List.pairwise_map,List.pairwise_iff_getElem]
      intro i j hi hj hij
      obtain ⟨h1,_⟩ := h j (Nat.zero_le _) (by omega)
      rw [hg j hj,metB_mem] at h1
      exact h1 _ (by
        rw [List.mem_take_iff_getElem]
        exact ⟨i,by omega,rfl⟩)
    · rw [chain_iff]
      intro k hk
      obtain ⟨_,h2⟩ := h k (Nat.zero_le _) (by omega)
      rw [hg k (by omega),Nat.mod_eq_of_lt hk,hg _ hk] at h2
      exact h2
    · obtain ⟨_,h2⟩ := h (R.length - 1) (Nat.zero_le _) (by omega)
      rw [hg _ (by omega),show R.length - 1 + 1 = R.length by omega,Nat.mod_self,hg 0 hpos] at h2
      rw [← last_el R (by omega),← head_at R hpos]
      exact h2
end Go.Am.Ring
