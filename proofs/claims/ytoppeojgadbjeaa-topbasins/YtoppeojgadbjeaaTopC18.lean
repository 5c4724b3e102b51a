import Derived.Test.YtoppeojgadbjeaaTopC7
set_option linter.unusedVariables false
set_option linter.unusedSimpArgs false
set_option maxRecDepth 10000
namespace Go.Am.Top
open Go.Am.G
theorem asks_f {r c : Nat} {hs : List Int} (S : Sho r c hs) (nl ex : Bool) (sz : Nat) (g : Nat) (first cap : List LV) (may : Nat → Bool) (hmay : MayF g first cap hs.length may) (f : Nat) :
    AskV n_ebb_Shore_flood_w0 [.ptr f 0 1] (capF f) hs.length (fun s m => FF r c nl ex sz hs (.func g first cap) f s m) (fstep may hs.length) (f + 1) := by
  refine ⟨fun s m x h hx => ?_,fun s m k vs h hk => h.trim k vs hk,fun s m h => h.len⟩
  obtain ⟨vT,vO,hm,n1,n2⟩ := h.mem
  have hf := h.flag
  have key : ∃ m1,retL ebb_Shore_flood_r0.results (exF LP ebb_Shore_flood_r0.B (LEnv.ofFrom 0 (argsR f x)) m) = some (.tup [],m1) ∧ FF r c nl ex sz hs (.func g first cap) f (fstep may hs.length s x) m1 := by
    by_cases q : x < hs.length ∧ x ∉ s.O ∧ may x = true
    · have e : fstep may hs.length s x = ⟨s.T ++ [x],s.O ++ [x]⟩ := by unfold fstep; rw [if_pos q]
      rw [e]
      exact round_yes S.le g first cap may hmay f s m x vT vO hm hf h.f6 n1 n2 q.1 q.2.1 q.2.2
    · have e : fstep may hs.length s x = s := by unfold fstep; rw [if_neg q]
      rw [e]
      exact ⟨m,round_no S.le g first cap may hmay f s m x hx vT vO hm hf h.f6 q,h⟩
  obtain ⟨m1,k1,k2⟩ := key
  have hr0 := call_W (args := argsR f x) lp_ebb_Shore_flood_r0 rfl k1
  have hl := h.len
  have k3 := k2.trim m.length [.tup []] hl
  have k4 := k3.trim m.length [.bool true] hl
  refine ⟨_,call_W (v := .bool true) (m1 := trim m.length [.tup []] m1) lp_ebb_Shore_flood_w0 rfl ?_,k4⟩
  generalize trim m.length [.tup []] m1 = m2 at *
  simp only [argsR] at hr0
  simp only [capF,List.cons_append,List.nil_append]
  simp only [ebb_Shore_flood_w0,ebb_Shore_flood_w0.B,exF_region,runL,wantL,stepL,evL,evC,LEnv.at,putL,loadFine,loadL,cellsAt,Trk.putNew,Trk.up,Trk.touch,Trk.gives,Trk.calm,Trk.hit,opdsOf,Trk.fresh,LEnv.keep,LEnv.ofFrom,List.map_cons,List.map_nil,nbeq,nble,ofAVs,List.any_cons,List.any_nil,Bool.or_false,Bool.false_or,Bool.true_or,Bool.and_true,Nat.reduceEqDiff,decide_true,decide_false,cond_true,cond_false,List.filter_nil,Nat.reduceAdd,Nat.reduceLeDiff,reduceCtorEq,List.length_nil,List.length_cons,eq_self,retL,resultsL,resAllL,resOfL,List.append_nil,List.nil_append,List.getElem?_cons_zero,List.take_succ_cons,List.drop_zero,List.take_nil,Nat.le_refl,hf,hr0]
theorem help_f {r c : Nat} {hs : List Int} (S : Sho r c hs) (nl ex : Bool) (sz : Nat) (g : Nat) (first cap : List LV) (may : Nat → Bool) (hmay : MayF g first cap hs.length may) (s : FS) (m : LMem) (vT vO : LV) (h : FM r c nl ex sz hs (.func g first cap) vT vO s m) (p : Nat) (hp : p < hs.length) :
    ∃ m',clF LP n_ebb_Shore_flood_h0 [.func n_ebb_Shore_beside_1 [] [.elt [.int .i64 (p : Int)] 0,.elt (SH r c nl ex sz hs) 0],.undef,.undef,.undef,.ptr 0 0 3,.undef,.undef,.undef,.undef,.ptr 3 0 1,.undef,.undef,.undef,.undef,.undef,.undef,.undef,.ptr 1 0 1,.undef,.undef,.undef,.undef,.undef,.undef,.undef,.ptr 4 0 1,.undef,.undef,.undef,.undef,.ptr 5 0 1,.undef,.undef,.undef] m = some (.W,.tup [],m') ∧
      ∃ vT' vO',FM r c nl ex sz hs (.func g first cap) vT' vO' ((nbs p c hs.length).foldl (fstep may hs.length) s) m' := by
  have h6 := h.len
  have hF0 : FF r c nl ex sz hs (.func g first cap) m.length s (m ++ [⟨[.bool true],true⟩]) := by
    refine ⟨⟨vT,vO,h.mono fun i hi => List.getElem?_append_left ?_,fun c => ?_,fun c => ?_⟩,by simp,h6⟩
    · rcases hi with hi | hi | hi
      · omega
      · exact h.qT.lt i hi
      · exact h.qO.lt i hi
    · have := h.qT.lt _ c; omega
    · have := h.qO.lt _ c; omega
  obtain ⟨m1,hb,hv⟩ := beside1_v S (asks_f S nl ex sz g first cap may hmay m.length) nl ex sz p hp s (m ++ [⟨[.bool true],true⟩]) hF0
  obtain ⟨vT',vO',hm,n1,n2⟩ := hv.mem
  have hfl := hv.flag
  have hm2 : FM r c nl ex sz hs (.func g first cap) vT' vO' ((nbs p c hs.length).foldl (fstep may hs.length) s) (m1.set m.length ⟨[.bool false],true⟩) := hm.mono fun i hi => by
    refine set_get _ _ _ _ fun e => ?_
    subst e
    rcases hi with hi | hi | hi
    · omega
    · exact n1 hi
    · exact n2 hi
  refine ⟨_,call_W (v := .tup []) (m1 := m1.set m.length ⟨[.bool false],true⟩) lp_ebb_Shore_flood_h0 rfl ?_,vT',vO',hm2.trim _ _ h6⟩
  simp only [capF] at hb
  simp only [ebb_Shore_flood_h0,ebb_Shore_flood_h0.B,exF_seq,exF_region,exF_cond,runL,wantL,stepL,evL,evC,LEnv.at,putL,loadFine,loadL,cellsAt,Trk.putNew,Trk.up,Trk.touch,Trk.gives,Trk.calm,Trk.hit,opdsOf,LEnv.keep,LEnv.ofFrom,List.map_cons,List.map_nil,nbeq,nble,List.any_nil,Bool.or_false,Bool.true_or,Bool.or_true,Bool.and_true,Bool.true_and,Bool.not_true,Bool.not_false,Nat.reduceEqDiff,decide_true,decide_false,cond_true,cond_false,List.filter_nil,List.filter_cons,Nat.reduceAdd,Nat.reduceLeDiff,reduceCtorEq,List.length_nil,List.length_cons,if_true,eq_self,retL,resultsL,resAllL,List.append_nil,List.nil_append,List.cons_append,LV.cells,allocL,List.getElem?_cons_zero,storeL,spliceL,List.take_zero,List.take_succ_cons,List.drop_zero,List.drop_succ_cons,List.drop_nil,List.take_nil,Nat.le_refl,LV.scalar,List.all_cons,List.all_nil,hb,hfl]
abbrev tlF : List Nat := [39,40,41,42,43,44,45,46,47,48,49,50,51,52,53,54,55,56,57,58,59,60,61,62,63,64,65]
theorem flood_loop {r c : Nat} {hs : List Int} (S : Sho r c hs) (nl ex : Bool) (sz : Nat) (g : Nat) (first cap : List LV) (may : Nat → Bool) (hmay : MayF g first cap hs.length may) (p : Nat) : ∀ (μ : Nat) (s : FS) (m : LMem) (vT vO : LV),FM r c nl ex sz hs (.func g first cap) vT vO s m → FI may c hs.length p s → 2 * (hs.length - s.O.length) + s.T.length ≤ μ →
    ∃ O' m' vT' vO',exF LP ebb_Shore_flood.L0 ((3,.ptr 0 0 3) :: (5,.ptr 1 0 1) :: (7,.ptr 3 0 1) :: (8,.ptr 4 0 1) :: (9,.ptr 5 0 1) :: (11,.undef) :: und tlF) m = some (.exit 0,[(9,.ptr 5 0 1)],m') ∧ FM r c nl ex sz hs (.func g first cap) vT' vO' ⟨[],O'⟩ m' ∧ FI may c hs.length p ⟨[],O'⟩ := by
  intro μ
  induction μ with
  | zero =>
    intro s m vT vO h hI hμ
    have e : s.T = [] := List.length_eq_zero_iff.1 (by omega)
    obtain ⟨T,O⟩ := s
    simp only at e
    subst e
    have hq := h.qT.lenL
    refine ⟨O,m,vT,vO,?_,h,hI⟩
    rw [ebb_Shore_flood.L0_eq]
    simp only [ebb_Shore_flood.B0,exF_seq,exF_region,exF_cond,exF_exit,runL,wantL,stepL,evL,evC,LEnv.at,putL,loadFine,loadL,cellsAt,Trk.calm,Trk.hit,LEnv.keep,List.map_cons,List.map_nil,nbeq,nble,bin_gtr,List.any_nil,Bool.or_false,Bool.false_or,Bool.true_or,Bool.and_true,Nat.reduceEqDiff,decide_true,decide_false,cond_true,cond_false,Nat.reduceAdd,Nat.reduceLeDiff,List.length_nil,List.length_cons,eq_self,Int.natCast_zero,List.getElem?_cons_zero,List.take_succ_cons,List.drop_zero,List.take_nil,Nat.le_refl,und,tlF,h.m4,hq,ci,List.map_nil,show ¬ ((0 : Int) > 0) by omega]
  | succ μ ih =>
    intro s m vT vO h hI hμ
    obtain ⟨T,O⟩ := s
    have hq := h.qT.lenL
    cases T with
    | nil =>
      refine ⟨O,m,vT,vO,?_,h,hI⟩
      rw [ebb_Shore_flood.L0_eq]
      simp only [ebb_Shore_flood.B0,exF_seq,exF_region,exF_cond,exF_exit,runL,wantL,stepL,evL,evC,LEnv.at,putL,loadFine,loadL,cellsAt,Trk.calm,Trk.hit,LEnv.keep,List.map_cons,List.map_nil,nbeq,nble,bin_gtr,List.any_nil,Bool.or_false,Bool.false_or,Bool.true_or,Bool.and_true,Nat.reduceEqDiff,decide_true,decide_false,cond_true,cond_false,Nat.reduceAdd,Nat.reduceLeDiff,List.length_nil,List.length_cons,eq_self,Int.natCast_zero,List.getElem?_cons_zero,List.take_succ_cons,List.drop_zero,List.take_nil,Nat.le_refl,und,tlF,h.m4,hq,ci,List.map_nil,show ¬ ((0 : Int) > 0) by omega]
    | cons x T =>
      have h6 := h.len
      have hxN : x < hs.length := h.okO.2 x (h.okT.2 x (by simp))
      -- the list behind its first
      have after : ∀ v1 : LV,Qu m v1 (ci T) → (∀ i,isBlk v1 i → isBlk vT i) → FM r c nl ex sz hs (.func g first cap) v1 vO ⟨T,O⟩ (m.set 4 ⟨[v1],true⟩) := fun v1 q1 hb => by
        have t : ∀ i,i ≠ 4 → (m.set 4 ⟨[v1],true⟩)[i]? = m[i]? := fun i hi => set_get _ _ _ _ (Ne.symm hi)
        exact ⟨(t 0 (by omega)).trans h.m0,(t 1 (by omega)).trans h.m1,(t 2 (by omega)).trans h.m2,(t 3 (by omega)).trans h.m3,set_got _ _ _ (by omega),(t 5 (by omega)).trans h.m5,
          q1.mono fun i hi => t i (by have := h.bT i (hb i hi); omega),h.qO.mono fun i hi => t i (by have := h.bO i hi; omega),fun i hi => h.bT i (hb i hi),h.bO,fun i hi => h.dis i (hb i hi),h.okO,⟨(List.nodup_cons.1 h.okT.1).2,fun y hy => h.okT.2 y (by simp [hy])⟩⟩
      have hbs := fun m => beside_c r c hs nl ex sz x m
      have hfs := fold_sub may hs.length (nbs x c hs.length) ⟨T,O⟩ (fun y hy => h.okT.2 y (by simp [hy])) h.okO.1
      have fin : ∀ v1 : LV,Qu m v1 (ci T) → (∀ i,isBlk v1 i → isBlk vT i) →
          ∃ m2 O' m' vT' vO',clF LP n_ebb_Shore_flood_h0 [.func n_ebb_Shore_beside_1 [] [.elt [.int .i64 (x : Int)] 0,.elt (SH r c nl ex sz hs) 0],.undef,.undef,.undef,.ptr 0 0 3,.undef,.undef,.undef,.undef,.ptr 3 0 1,.undef,.undef,.undef,.undef,.undef,.undef,.undef,.ptr 1 0 1,.undef,.undef,.undef,.undef,.undef,.undef,.undef,.ptr 4 0 1,.undef,.undef,.undef,.undef,.ptr 5 0 1,.undef,.undef,.undef] (m.set 4 ⟨[v1],true⟩) = some (.W,.tup [],m2) ∧
            (∀ vs,∃ O' m' vT' vO',exF LP ebb_Shore_flood.L0 ((3,.ptr 0 0 3) :: (5,.ptr 1 0 1) :: (7,.ptr 3 0 1) :: (8,.ptr 4 0 1) :: (9,.ptr 5 0 1) :: (11,.undef) :: und tlF) (trim m.length vs m2) = some (.exit 0,[(9,.ptr 5 0 1)],m') ∧ FM r c nl ex sz hs (.func g first cap) vT' vO' ⟨[],O'⟩ m' ∧ FI may c hs.length p ⟨[],O'⟩) := fun v1 q1 hb => by
        obtain ⟨m2,k1,vT2,vO2,k2⟩ := help_f S nl ex sz g first cap may hmay ⟨T,O⟩ (m.set 4 ⟨[v1],true⟩) v1 vO (after v1 q1 hb) x hxN
        refine ⟨m2,O,m2,vT,vO,k1,fun vs => ?_⟩
        refine ih _ _ _ _ (k2.trim m.length vs h6) hI.next ?_
        have hO2 := k2.lenO
        have hO := h.lenO
        have e3 := hfs.2.2
        have e4 : O.length ≤ ((nbs x c hs.length).foldl (fstep may hs.length) ⟨T,O⟩).O.length := by
          exact List.Nodup.length_le_of_subset h.okO.1 fun y hy => (fold_mono may hs.length _ _ y).1 hy
        simp only [List.length_cons] at hμ
        simp only at e3 hO
        omega
      have hlen : (ci (x :: T)).length = T.length + 1 := by simp [ci]
      rcases h.qT with ⟨nl1,ex1,z1,rfl,w1,w2,w3,w6⟩ | ⟨b1,o1,cs1,rfl,w1,w2,w4,w5⟩
      · have hnl : nl1 = false := by
          cases nl1
          · rfl
          · have := w3 rfl; simp [ci] at this
        subst hnl
        have hex : ex1 = true := by simpa using w1
        subst hex
        have hz : z1 = 1 := by rcases w2 with e | e; simp [ci] at e; exact e
        subst hz
        have hsl : sliceL 1 (.lst false true 1 (ci (x :: T)).length ((ci (x :: T)).map (LV.int .i64))) (some (.int .i64 1)) none none = some (.lst false true 1 (ci T).length ((ci T).map (LV.int .i64))) := by
          simp [sliceL,optNatL,natL,nble,ci]
          exact List.take_of_length_le (by simp)
        obtain ⟨m2,_,_,_,_,k1,k2⟩ := fin (.lst false true 1 (ci T).length ((ci T).map (LV.int .i64))) (.inl ⟨false,true,1,rfl,.inr rfl,.inr rfl,(fun h => by cases h),by simp [ci] at w6 ⊢; simp [w6]⟩) (fun i hi => by simp [isBlk] at hi)
        have h4 := h.m4
        have hat : ((ci (x :: T)).map (LV.int .i64))[0]? = some (.int .i64 (x : Int)) := rfl
        have hpos : 0 < (ci (x :: T)).length := by omega
        have hgt : ((((ci (x :: T)).length : Nat) : Int) > 0) := by omega
        have hgt' : ((0 : Int) < (((ci (x :: T)).length : Nat) : Int)) := by omega
        have c1 : LV.cells (.lst false true 1 (ci T).length ((ci T).map (LV.int .i64))) = some [.lst false true 1 (ci T).length ((ci T).map (LV.int .i64))] := rfl
        have s4 := set_get m 4 0 ⟨[.lst false true 1 (ci T).length ((ci T).map (LV.int .i64))],true⟩ (by omega)
        have s40 := s4.trans h.m0
        generalize (ci (x :: T)).map (LV.int .i64) = cs at *
        generalize (ci (x :: T)).length = n at *
        generalize (ci T).map (LV.int .i64) = cs1 at *
        generalize (ci T).length = n1 at *
        obtain ⟨O',m',vT',vO',k3,k4⟩ := k2 [.ptr 0 0 3,.ptr 1 0 1,.ptr 3 0 1,.ptr 4 0 1,.ptr 5 0 1,.undef,.undef,.undef,.undef,.undef,.undef,.undef,.undef,.undef,.undef,.undef,.undef,.undef,.undef,.undef,.undef,.undef,.undef,.undef,.undef,.undef,.undef,.undef,.undef,.undef,.undef,.undef,.undef]
        refine ⟨O',m',vT',vO',?_,k4⟩
        rw [ebb_Shore_flood.L0_eq]
        simp only [und,tlF,List.map_cons,List.map_nil] at k3 ⊢
        simp only [ebb_Shore_flood.B0,exF_seq,exF_region,exF_block,exF_cond,exF_skip,runL,wantL,stepL,evL,evC,LEnv.at,putL,loadFine,loadL,cellsAt,Trk.putNew,Trk.up,Trk.touch,Trk.gives,Trk.calm,Trk.hit,opdsOf,Trk.fresh,LEnv.keep,List.map_cons,List.map_nil,nbeq,nble,nblt,ofAVs,bin_gtr,natL_zero,List.any_cons,List.any_nil,Bool.or_false,Bool.false_or,Bool.true_or,Bool.and_true,Nat.reduceEqDiff,decide_true,decide_false,cond_true,cond_false,List.filter_nil,Nat.reduceAdd,Nat.reduceLeDiff,List.length_nil,List.length_cons,Nat.mul_one,eq_self,List.append_nil,List.nil_append,List.getElem?_cons_zero,storeL,spliceL,List.take_zero,List.take_succ_cons,List.drop_zero,List.drop_succ_cons,List.drop_nil,List.take_nil,Nat.le_refl,List.all_cons,List.all_nil,lenL,scalarN,h4,hgt,hpos,hat,hsl,Option.map_some,Option.map_none,c1,s40,hbs,k1,envVals,k3]
      · have hb := (List.getElem?_eq_some_iff.1 w1).1
        have hsl : sliceL 1 (.sl b1 o1 (ci (x :: T)).length (ci (x :: T)).length 1 1 cs1.length) (some (.int .i64 1)) none none = some (.sl b1 (o1 + 1) (ci T).length (ci T).length 1 1 cs1.length) := by
          simp [sliceL,optNatL,natL,nbeq,nble,ci]
        have hd : cs1.drop (o1 + 1) = (ci T).map (LV.int .i64) := by
          rw [← List.drop_drop,w2]; rfl
        obtain ⟨m2,_,_,_,_,k1,k2⟩ := fin (.sl b1 (o1 + 1) (ci T).length (ci T).length 1 1 cs1.length) (.inr ⟨b1,o1 + 1,cs1,rfl,w1,hd,by simp [ci] at w4 ⊢; omega,w5⟩) (fun i hi => hi)
        have h4 := h.m4
        have hat : cs1[o1]? = some (.int .i64 (x : Int)) := by
          have := congrArg (fun l => l[0]?) w2
          simpa [ci] using this
        have hpos : 0 < (ci (x :: T)).length := by omega
        have hgt : ((((ci (x :: T)).length : Nat) : Int) > 0) := by omega
        have hgt' : ((0 : Int) < (((ci (x :: T)).length : Nat) : Int)) := by omega
        have c1 : LV.cells (.sl b1 (o1 + 1) (ci T).length (ci T).length 1 1 cs1.length) = some [.sl b1 (o1 + 1) (ci T).length (ci T).length 1 1 cs1.length] := rfl
        have c2 : LV.scalar (.sl b1 (o1 + 1) (ci T).length (ci T).length 1 1 cs1.length) = true := rfl
        have s4 := set_get m 4 0 ⟨[.sl b1 (o1 + 1) (ci T).length (ci T).length 1 1 cs1.length],true⟩ (by omega)
        have s40 := s4.trans h.m0
        generalize (ci (x :: T)).length = n at *
        generalize (ci T).length = n1 at *
        obtain ⟨O',m',vT',vO',k3,k4⟩ := k2 [.ptr 0 0 3,.ptr 1 0 1,.ptr 3 0 1,.ptr 4 0 1,.ptr 5 0 1,.undef,.undef,.undef,.undef,.undef,.undef,.undef,.undef,.undef,.undef,.undef,.undef,.undef,.undef,.undef,.undef,.undef,.undef,.undef,.undef,.undef,.undef,.undef,.undef,.undef,.undef,.undef,.undef]
        refine ⟨O',m',vT',vO',?_,k4⟩
        rw [ebb_Shore_flood.L0_eq]
        simp only [und,tlF,List.map_cons,List.map_nil] at k3 ⊢
        simp only [ebb_Shore_flood.B0,exF_seq,exF_region,exF_block,exF_cond,exF_skip,runL,wantL,stepL,evL,evC,LEnv.at,putL,loadFine,loadL,cellsAt,Trk.putNew,Trk.up,Trk.touch,Trk.gives,Trk.calm,Trk.hit,opdsOf,Trk.fresh,LEnv.keep,List.map_cons,List.map_nil,nbeq,nble,nblt,ofAVs,bin_gtr,natL_zero,List.any_cons,List.any_nil,Bool.or_false,Bool.false_or,Bool.true_or,Bool.and_true,Nat.reduceEqDiff,decide_true,decide_false,cond_true,cond_false,List.filter_nil,Nat.reduceAdd,Nat.reduceLeDiff,List.length_nil,List.length_cons,Nat.mul_one,eq_self,List.append_nil,List.nil_append,List.getElem?_cons_zero,storeL,spliceL,List.take_zero,List.take_succ_cons,List.drop_zero,List.drop_succ_cons,List.drop_nil,List.take_nil,Nat.le_refl,List.all_cons,List.all_nil,lenL,h4,w1,hgt,hpos,Nat.add_zero,hat,hsl,Option.map_some,Option.map_none,c1,c2,s40,hbs,k1,envVals,k3]
end Go.Am.Top
set_option linter.unusedVariables false
set_option linter.unusedSimpArgs false
set_option maxRecDepth 10000
namespace Go.Am.Top
open Go.Am.G
theorem nan_c (x : Int) (m : LMem) : clF LP n_cmp_isNaN_int [.int .i64 x] m = some (.P,.bool false,m) := by
  refine call_P lp_cmp_isNaN_int rfl (by simp [LV.pures,LV.pure]) (m1 := []) ?_ rfl m
  simp only [cmp_isNaN_int,cmp_isNaN_int.B,beqT,beqF,exF_seq,exF_region,exF_block,exF_cond,exF_ret,exF_exit,exF_skip,runL,wantL,stepL,evL,evC,LEnv.at,putL,loadFine,loadL,cellsAt,Trk.putNew,Trk.up,Trk.touch,Trk.gives,Trk.calm,Trk.hit,opdsOf,Trk.fresh,LEnv.keep,LEnv.ofFrom,List.map_cons,List.map_nil,nbeq,nble,nblt,ofAV,ofAVs,lenL,bin_add,bin_sub,bin_mul,bin_eql,bin_neq,bin_lss,bin_leq,bin_gtr,bin_geq,natL_nat,natL_zero,natL_one,natL_two,Nat.zero_mul,List.any_cons,List.any_nil,Bool.or_false,Bool.false_or,Bool.true_or,Bool.or_true,Bool.and_true,Bool.true_and,Bool.and_false,Bool.false_and,Bool.not_true,Bool.not_false,Nat.reduceBEq,Nat.reduceEqDiff,decide_true,decide_false,cond_true,cond_false,List.filter_nil,List.filter_cons,Nat.reduceAdd,Nat.reduceLeDiff,reduceCtorEq,List.length_nil,List.length_cons,Nat.mul_one,if_true,if_false,Bool.false_eq_true,eq_self,and_true,true_and,retL,resultsL,resAllL,resOfL,List.append_nil,List.nil_append,List.cons_append,true_or,or_true,false_or,or_false,false_and,and_false,not_true_eq_false,not_false_eq_true,ne_eq,unL,trim_nil,views_pures,LV.pures,LV.pure,freeze,Nat.reduceDiv,Int.reduceEq,Int.reduceLT,Int.reduceLE,Int.natCast_zero,LV.cells,allocL,List.getElem?_cons_zero,List.getElem?_cons_succ,storeL,spliceL,List.take_zero,List.take_succ_cons,List.drop_zero,List.drop_succ_cons,List.drop_nil,List.take_nil,Nat.le_refl,Nat.reduceMul,List.set_cons_zero,List.set_cons_succ,LV.scalar,List.all_cons,List.all_nil,Nat.lt_add_one,Nat.zero_lt_one,Nat.reduceLT,Nat.lt_irrefl,fillL,List.length_append,foldIntL,kind_beq,pures_int,solids_int,plains_int,unders_int,scalars_int]
theorem less_c (x y : Int) (m : LMem) : clF LP n_cmp_Less_int [.int .i64 x,.int .i64 y] m = some (.P,.bool (decide (x < y)),m) := by
  have h := fun x m => nan_c x m
  refine call_P lp_cmp_Less_int rfl (by simp [LV.pures,LV.pure]) (m1 := []) ?_ rfl m
  by_cases c : x < y
  · simp only [cmp_Less_int,cmp_Less_int.B,beqT,beqF,exF_seq,exF_region,exF_block,exF_cond,exF_ret,exF_exit,exF_skip,runL,wantL,stepL,evL,evC,LEnv.at,putL,loadFine,loadL,cellsAt,Trk.putNew,Trk.up,Trk.touch,Trk.gives,Trk.calm,Trk.hit,opdsOf,Trk.fresh,LEnv.keep,LEnv.ofFrom,List.map_cons,List.map_nil,nbeq,nble,nblt,ofAV,ofAVs,lenL,bin_add,bin_sub,bin_mul,bin_eql,bin_neq,bin_lss,bin_leq,bin_gtr,bin_geq,natL_nat,natL_zero,natL_one,natL_two,Nat.zero_mul,List.any_cons,List.any_nil,Bool.or_false,Bool.false_or,Bool.true_or,Bool.or_true,Bool.and_true,Bool.true_and,Bool.and_false,Bool.false_and,Bool.not_true,Bool.not_false,Nat.reduceBEq,Nat.reduceEqDiff,decide_true,decide_false,cond_true,cond_false,List.filter_nil,List.filter_cons,Nat.reduceAdd,Nat.reduceLeDiff,reduceCtorEq,List.length_nil,List.length_cons,Nat.mul_one,if_true,if_false,Bool.false_eq_true,eq_self,and_true,true_and,retL,resultsL,resAllL,resOfL,List.append_nil,List.nil_append,List.cons_append,true_or,or_true,false_or,or_false,false_and,and_false,not_true_eq_false,not_false_eq_true,ne_eq,unL,trim_nil,views_pures,LV.pures,LV.pure,freeze,Nat.reduceDiv,Int.reduceEq,Int.reduceLT,Int.reduceLE,Int.natCast_zero,LV.cells,allocL,List.getElem?_cons_zero,List.getElem?_cons_succ,storeL,spliceL,List.take_zero,List.take_succ_cons,List.drop_zero,List.drop_succ_cons,List.drop_nil,List.take_nil,Nat.le_refl,Nat.reduceMul,List.set_cons_zero,List.set_cons_succ,LV.scalar,List.all_cons,List.all_nil,Nat.lt_add_one,Nat.zero_lt_one,Nat.reduceLT,Nat.lt_irrefl,fillL,List.length_append,foldIntL,kind_beq,pures_int,solids_int,plains_int,unders_int,scalars_int,h,c]
  · simp only [cmp_Less_int,cmp_Less_int.B,beqT,beqF,exF_seq,exF_region,exF_block,exF_cond,exF_ret,exF_exit,exF_skip,runL,wantL,stepL,evL,evC,LEnv.at,putL,loadFine,loadL,cellsAt,Trk.putNew,Trk.up,Trk.touch,Trk.gives,Trk.calm,Trk.hit,opdsOf,Trk.fresh,LEnv.keep,LEnv.ofFrom,List.map_cons,List.map_nil,nbeq,nble,nblt,ofAV,ofAVs,lenL,bin_add,bin_sub,bin_mul,bin_eql,bin_neq,bin_lss,bin_leq,bin_gtr,bin_geq,natL_nat,natL_zero,natL_one,natL_two,Nat.zero_mul,List.any_cons,List.any_nil,Bool.or_false,Bool.false_or,Bool.true_or,Bool.or_true,Bool.and_true,Bool.true_and,Bool.and_false,Bool.false_and,Bool.not_true,Bool.not_false,Nat.reduceBEq,Nat.reduceEqDiff,decide_true,decide_false,cond_true,cond_false,List.filter_nil,List.filter_cons,Nat.reduceAdd,Nat.reduceLeDiff,reduceCtorEq,List.length_nil,List.length_cons,Nat.mul_one,if_true,if_false,Bool.false_eq_true,eq_self,and_true,true_and,retL,resultsL,resAllL,resOfL,List.append_nil,List.nil_append,List.cons_append,true_or,or_true,false_or,or_false,false_and,and_false,not_true_eq_false,not_false_eq_true,ne_eq,unL,trim_nil,views_pures,LV.pures,LV.pure,freeze,Nat.reduceDiv,Int.reduceEq,Int.reduceLT,Int.reduceLE,Int.natCast_zero,LV.cells,allocL,List.getElem?_cons_zero,List.getElem?_cons_succ,storeL,spliceL,List.take_zero,List.take_succ_cons,List.drop_zero,List.drop_succ_cons,List.drop_nil,List.take_nil,Nat.le_refl,Nat.reduceMul,List.set_cons_zero,List.set_cons_succ,LV.scalar,List.all_cons,List.all_nil,Nat.lt_add_one,Nat.zero_lt_one,Nat.reduceLT,Nat.lt_irrefl,fillL,List.length_append,foldIntL,kind_beq,pures_int,solids_int,plains_int,unders_int,scalars_int,h,c]
def InvI (l : List Nat) (i j : Nat) : Prop := ∀ p q,p < q → q ≤ i → q ≠ j → l.getD p 0 ≤ l.getD q 0
def SrtI (l : List Nat) (i : Nat) : Prop := ∀ p q,p < q → q ≤ i → l.getD p 0 ≤ l.getD q 0
theorem getDn_set {l : List Nat} {i j v : Nat} (h : i < l.length) : (l.set i v).getD j 0 = if i = j then v else l.getD j 0 := by
  simp only [List.getD_eq_getElem?_getD,List.getElem?_set]
  by_cases c : i = j
  · subst c; simp [h]
  · simp [c]
theorem swap_perm {l : List Nat} {i j : Nat} (hi : i < l.length) (hj : j < l.length) : ((l.set i l[j]).set j l[i]).Perm l := List.set_set_perm hi hj
abbrev SM (m : LMem) (b : Nat) (pre : List LV) (l : List Nat) : LMem := m.set b ⟨pre ++ (ci l).map (LV.int .i64),true⟩
theorem sm_at (pre : List LV) (l : List Nat) (j : Nat) (h : j < l.length) : (pre ++ (ci l).map (LV.int .i64))[pre.length + j]? = some (.int .i64 ((l[j] : Nat) : Int)) := by
  rw [List.getElem?_append_right (by omega),show pre.length + j - pre.length = j by omega]
  exact ci_at l j h
theorem sm_set (pre : List LV) (l : List Nat) (j v : Nat) (h : j < l.length) : (pre ++ (ci l).map (LV.int .i64)).take (pre.length + j) ++ [.int .i64 (v : Int)] ++ (pre ++ (ci l).map (LV.int .i64)).drop (pre.length + j + 1) = pre ++ (ci (l.set j v)).map (LV.int .i64) := by
  have e := set_int .i64 (ci l) j (v : Int) (by simpa using h)
  have e2 : (ci l).set j (v : Int) = ci (l.set j v) := by simp [ci,List.map_set]
  rw [e2] at e
  rw [← e,List.take_append,List.drop_append]
  simp only [show pre.length + j - pre.length = j by omega,show pre.length + j + 1 - pre.length = j + 1 by omega]
  have e3 : pre.drop (pre.length + j + 1) = [] := List.drop_eq_nil_of_le (by omega)
  rw [List.take_of_length_le (show pre.length ≤ pre.length + j by omega),e3]
  simp
theorem ins_loop (m : LMem) (b : Nat) (hb : b < m.length) (pre : List LV) (n i L : Nat) (hi : i < n) (hn : n ≤ 100) (hL : L = pre.length + n) : ∀ (j : Nat) (l : List Nat),j ≤ i → l.length = n → InvI l i j →
    ∃ l',exF LP slices_insertionSortOrdered_int.L0 [(0,.sl b pre.length n n 1 1 L),(1,.int .i64 0),(2,.int .i64 (n : Int)),(6,.int .i64 (i : Int)),(7,.int .i64 (j : Int))] (SM m b pre l) =
      some (.exit 2,[(0,.sl b pre.length n n 1 1 L),(1,.int .i64 0),(2,.int .i64 (n : Int)),(6,.int .i64 (i : Int))],SM m b pre l') ∧ l'.Perm l ∧ SrtI l' i := by
  intro j
  induction j with
  | zero =>
    intro l hj hl hI
    refine ⟨l,?_,.refl _,fun p q hpq hq => hI p q hpq hq (by omega)⟩
    rw [slices_insertionSortOrdered_int.L0_eq]
    simp only [slices_insertionSortOrdered_int.B0,beqT,beqF,exF_seq,exF_region,exF_block,exF_cond,exF_ret,exF_exit,exF_skip,runL,wantL,stepL,evL,evC,LEnv.at,putL,loadFine,loadL,cellsAt,Trk.putNew,Trk.up,Trk.touch,Trk.gives,Trk.calm,Trk.hit,opdsOf,Trk.fresh,LEnv.keep,LEnv.ofFrom,List.map_cons,List.map_nil,nbeq,nble,nblt,ofAV,ofAVs,lenL,bin_add,bin_sub,bin_mul,bin_eql,bin_neq,bin_lss,bin_leq,bin_gtr,bin_geq,natL_nat,natL_zero,natL_one,natL_two,Nat.zero_mul,List.any_cons,List.any_nil,Bool.or_false,Bool.false_or,Bool.true_or,Bool.or_true,Bool.and_true,Bool.true_and,Bool.and_false,Bool.false_and,Bool.not_true,Bool.not_false,Nat.reduceBEq,Nat.reduceEqDiff,decide_true,decide_false,cond_true,cond_false,List.filter_nil,List.filter_cons,Nat.reduceAdd,Nat.reduceLeDiff,reduceCtorEq,List.length_nil,List.length_cons,Nat.mul_one,if_true,if_false,Bool.false_eq_true,eq_self,and_true,true_and,retL,resultsL,resAllL,resOfL,List.append_nil,List.nil_append,List.cons_append,true_or,or_true,false_or,or_false,false_and,and_false,not_true_eq_false,not_false_eq_true,ne_eq,unL,trim_nil,views_pures,LV.pures,LV.pure,freeze,Nat.reduceDiv,Int.reduceEq,Int.reduceLT,Int.reduceLE,Int.natCast_zero,LV.cells,allocL,List.getElem?_cons_zero,List.getElem?_cons_succ,storeL,spliceL,List.take_zero,List.take_succ_cons,List.drop_zero,List.drop_succ_cons,List.drop_nil,List.take_nil,Nat.le_refl,Nat.reduceMul,List.set_cons_zero,List.set_cons_succ,LV.scalar,List.all_cons,List.all_nil,Nat.lt_add_one,Nat.zero_lt_one,Nat.reduceLT,Nat.lt_irrefl,fillL,List.length_append,foldIntL,kind_beq,pures_int,solids_int,plains_int,unders_int,scalars_int,Int.lt_irrefl,show ¬ ((0 : Int) > 0) by omega]
  | succ j ih =>
    intro l hj hl hI
    have h1 : j + 1 < l.length := by omega
    have h2 : j < l.length := by omega
    have hget : ∀ l,(SM m b pre l)[b]? = some ⟨pre ++ (ci l).map (LV.int .i64),true⟩ := fun l => set_got _ _ _ hb
    have hset : ∀ l X,(SM m b pre l).set b X = m.set b X := fun l X => List.set_set ..
    have hsl : ∀ l,(SM m b pre l).length = m.length := fun l => by simp [SM]
    have hcl : ∀ l : List Nat,l.length = n → (pre ++ (ci l).map (LV.int .i64)).length = L := fun l hl => by simp [hl,hL]
    have hc0 := hcl l hl
    have hat1 := sm_at pre l (j + 1) h1
    have hat0 := sm_at pre l j h2
    have w1 : IntKind.i64.wrap (((j + 1 : Nat) : Int) - 1) = (j : Int) := by rw [wrap_in (by omega)]; omega
    have hless := fun m => less_c ((l[j + 1] : Nat) : Int) ((l[j] : Nat) : Int) m
    have hst : ¬ m.length ≤ b := by omega
    rw [slices_insertionSortOrdered_int.L0_eq]
    by_cases c : l[j + 1] < l[j]
    · rw [decide_eq_true (show ((l[j + 1] : Nat) : Int) < ((l[j] : Nat) : Int) by omega)] at hless
      have hp := swap_perm (l := l) (i := j + 1) (j := j) h1 h2
      have hl2 : ((l.set (j + 1) l[j]).set j l[j + 1]).length = n := by simp [hl]
      have hI2 : InvI ((l.set (j + 1) l[j]).set j l[j + 1]) i j := by
        intro p q hpq hq hne
        have gj : l.getD j 0 = l[j] := by simp [h2]
        have gj1 : l.getD (j + 1) 0 = l[j + 1] := by simp [h1]
        have hs : ∀ z,((l.set (j + 1) l[j]).set j l[j + 1]).getD z 0 = if j = z then l[j + 1] else if j + 1 = z then l[j] else l.getD z 0 := fun z => by
          rw [getDn_set (by rw [List.length_set]; exact h2),getDn_set h1]
        rw [hs,hs]
        rw [if_neg (fun e : j = q => hne e.symm)]
        by_cases e1 : j + 1 = q
        · rw [if_pos e1]
          by_cases e2 : j = p
          · rw [if_pos e2]; omega
          · rw [if_neg e2,if_neg (by omega)]
            have := hI p j (by omega) (by omega) (by omega)
            omega
        · rw [if_neg e1]
          by_cases e2 : j = p
          · rw [if_pos e2]
            have := hI (j + 1) q (by omega) hq (by omega)
            omega
          · rw [if_neg e2]
            by_cases e3 : j + 1 = p
            · rw [if_pos e3]
              have := hI j q (by omega) hq (by omega)
              omega
            · rw [if_neg e3]
              exact hI p q hpq hq (by omega)
      obtain ⟨l',k1,k2,k3⟩ := ih _ (by omega) hl2 hI2
      refine ⟨l',?_,k2.trans hp,k3⟩
      have s1 := sm_set pre l (j + 1) l[j] h1
      have s2 := sm_set pre (l.set (j + 1) l[j]) j l[j + 1] (by simp; omega)
      have hc1 := hcl (l.set (j + 1) l[j]) (by simp [hl])
      generalize l[j + 1] = x at *
      generalize l[j] = y at *
      simp only [SM] at hget hset hsl k1 ⊢
      simp only [slices_insertionSortOrdered_int.B0,beqT,beqF,exF_seq,exF_region,exF_block,exF_cond,exF_ret,exF_exit,exF_skip,runL,wantL,stepL,evL,evC,LEnv.at,putL,loadFine,loadL,cellsAt,Trk.putNew,Trk.up,Trk.touch,Trk.gives,Trk.calm,Trk.hit,opdsOf,Trk.fresh,LEnv.keep,LEnv.ofFrom,List.map_cons,List.map_nil,nbeq,nble,nblt,ofAV,ofAVs,lenL,bin_add,bin_sub,bin_mul,bin_eql,bin_neq,bin_lss,bin_leq,bin_gtr,bin_geq,natL_nat,natL_zero,natL_one,natL_two,Nat.zero_mul,List.any_cons,List.any_nil,Bool.or_false,Bool.false_or,Bool.true_or,Bool.or_true,Bool.and_true,Bool.true_and,Bool.and_false,Bool.false_and,Bool.not_true,Bool.not_false,Nat.reduceBEq,Nat.reduceEqDiff,decide_true,decide_false,cond_true,cond_false,List.filter_nil,List.filter_cons,Nat.reduceAdd,Nat.reduceLeDiff,reduceCtorEq,List.length_nil,List.length_cons,Nat.mul_one,if_true,if_false,Bool.false_eq_true,eq_self,and_true,true_and,retL,resultsL,resAllL,resOfL,List.append_nil,List.nil_append,List.cons_append,true_or,or_true,false_or,or_false,false_and,and_false,not_true_eq_false,not_false_eq_true,ne_eq,unL,trim_nil,views_pures,LV.pures,LV.pure,freeze,Nat.reduceDiv,Int.reduceEq,Int.reduceLT,Int.reduceLE,Int.natCast_zero,LV.cells,allocL,List.getElem?_cons_zero,List.getElem?_cons_succ,storeL,spliceL,List.take_zero,List.take_succ_cons,List.drop_zero,List.drop_succ_cons,List.drop_nil,List.take_nil,Nat.le_refl,Nat.reduceMul,List.set_cons_zero,List.set_cons_succ,LV.scalar,List.all_cons,List.all_nil,Nat.lt_add_one,Nat.zero_lt_one,Nat.reduceLT,Nat.lt_irrefl,fillL,List.length_append,foldIntL,kind_beq,pures_int,solids_int,plains_int,unders_int,scalars_int,List.length_set,hget,hset,hc0,hc1,hst,show ((j + 1 : Nat) : Int) > 0 by omega,show (0 : Int) < ((j + 1 : Nat) : Int) by omega,show j + 1 < n by omega,show j < n by omega,hat1,hat0,w1,hless,show pre.length + (j + 1) + 1 ≤ L by omega,show pre.length + j + 1 ≤ L by omega,s1,s2,k1]
    · rw [decide_eq_false (show ¬ ((l[j + 1] : Nat) : Int) < ((l[j] : Nat) : Int) by omega)] at hless
      refine ⟨l,?_,.refl _,fun p q hpq hq => ?_⟩
      · simp only [SM] at hget hset hsl ⊢
        simp only [slices_insertionSortOrdered_int.B0,beqT,beqF,exF_seq,exF_region,exF_block,exF_cond,exF_ret,exF_exit,exF_skip,runL,wantL,stepL,evL,evC,LEnv.at,putL,loadFine,loadL,cellsAt,Trk.putNew,Trk.up,Trk.touch,Trk.gives,Trk.calm,Trk.hit,opdsOf,Trk.fresh,LEnv.keep,LEnv.ofFrom,List.map_cons,List.map_nil,nbeq,nble,nblt,ofAV,ofAVs,lenL,bin_add,bin_sub,bin_mul,bin_eql,bin_neq,bin_lss,bin_leq,bin_gtr,bin_geq,natL_nat,natL_zero,natL_one,natL_two,Nat.zero_mul,List.any_cons,List.any_nil,Bool.or_false,Bool.false_or,Bool.true_or,Bool.or_true,Bool.and_true,Bool.true_and,Bool.and_false,Bool.false_and,Bool.not_true,Bool.not_false,Nat.reduceBEq,Nat.reduceEqDiff,decide_true,decide_false,cond_true,cond_false,List.filter_nil,List.filter_cons,Nat.reduceAdd,Nat.reduceLeDiff,reduceCtorEq,List.length_nil,List.length_cons,Nat.mul_one,if_true,if_false,Bool.false_eq_true,eq_self,and_true,true_and,retL,resultsL,resAllL,resOfL,List.append_nil,List.nil_append,List.cons_append,true_or,or_true,false_or,or_false,false_and,and_false,not_true_eq_false,not_false_eq_true,ne_eq,unL,trim_nil,views_pures,LV.pures,LV.pure,freeze,Nat.reduceDiv,Int.reduceEq,Int.reduceLT,Int.reduceLE,Int.natCast_zero,LV.cells,allocL,List.getElem?_cons_zero,List.getElem?_cons_succ,storeL,spliceL,List.take_zero,List.take_succ_cons,List.drop_zero,List.drop_succ_cons,List.drop_nil,List.take_nil,Nat.le_refl,Nat.reduceMul,List.set_cons_zero,List.set_cons_succ,LV.scalar,List.all_cons,List.all_nil,Nat.lt_add_one,Nat.zero_lt_one,Nat.reduceLT,Nat.lt_irrefl,fillL,List.length_append,foldIntL,kind_beq,pures_int,solids_int,plains_int,unders_int,scalars_int,List.length_set,hget,hset,hc0,hst,show ((j + 1 : Nat) : Int) > 0 by omega,show (0 : Int) < ((j + 1 : Nat) : Int) by omega,show j + 1 < n by omega,show j < n by omega,hat1,hat0,w1,hless]
      · by_cases e : q = j + 1
        · subst e
          have gj : l.getD j 0 = l[j] := by simp [h2]
          have gj1 : l.getD (j + 1) 0 = l[j + 1] := by simp [h1]
          by_cases e2 : p = j
          · subst e2; omega
          · have := hI p j (by omega) (by omega) (by omega)
            omega
        · exact hI p q hpq hq e
theorem sort_loop (m : LMem) (b : Nat) (hb : b < m.length) (pre : List LV) (n L : Nat) (hn : n ≤ 100) (hL : L = pre.length + n) (t : Nat) : ∀ (i : Nat) (l : List Nat),1 ≤ i → i + t = n ∨ (n < i ∧ t = 0) → l.length = n → SrtI l (i - 1) →
    ∃ l',exF LP slices_insertionSortOrdered_int.L1 [(0,.sl b pre.length n n 1 1 L),(1,.int .i64 0),(2,.int .i64 (n : Int)),(6,.int .i64 (i : Int))] (SM m b pre l) = some (.exit 0,[],SM m b pre l') ∧ l'.Perm l ∧ (n ≠ 0 → SrtI l' (n - 1)) := by
  induction t with
  | zero =>
    intro i l h1 hi hl hS
    refine ⟨l,?_,.refl _,fun h0 p q hpq hq => hS p q hpq (by omega)⟩
    rw [slices_insertionSortOrdered_int.L1_eq]
    simp only [slices_insertionSortOrdered_int.B1,beqT,beqF,exF_seq,exF_region,exF_block,exF_cond,exF_ret,exF_exit,exF_skip,runL,wantL,stepL,evL,evC,LEnv.at,putL,loadFine,loadL,cellsAt,Trk.putNew,Trk.up,Trk.touch,Trk.gives,Trk.calm,Trk.hit,opdsOf,Trk.fresh,LEnv.keep,LEnv.ofFrom,List.map_cons,List.map_nil,nbeq,nble,nblt,ofAV,ofAVs,lenL,bin_add,bin_sub,bin_mul,bin_eql,bin_neq,bin_lss,bin_leq,bin_gtr,bin_geq,natL_nat,natL_zero,natL_one,natL_two,Nat.zero_mul,List.any_cons,List.any_nil,Bool.or_false,Bool.false_or,Bool.true_or,Bool.or_true,Bool.and_true,Bool.true_and,Bool.and_false,Bool.false_and,Bool.not_true,Bool.not_false,Nat.reduceBEq,Nat.reduceEqDiff,decide_true,decide_false,cond_true,cond_false,List.filter_nil,List.filter_cons,Nat.reduceAdd,Nat.reduceLeDiff,reduceCtorEq,List.length_nil,List.length_cons,Nat.mul_one,if_true,if_false,Bool.false_eq_true,eq_self,and_true,true_and,retL,resultsL,resAllL,resOfL,List.append_nil,List.nil_append,List.cons_append,true_or,or_true,false_or,or_false,false_and,and_false,not_true_eq_false,not_false_eq_true,ne_eq,unL,trim_nil,views_pures,LV.pures,LV.pure,freeze,Nat.reduceDiv,Int.reduceEq,Int.reduceLT,Int.reduceLE,Int.natCast_zero,LV.cells,allocL,List.getElem?_cons_zero,List.getElem?_cons_succ,storeL,spliceL,List.take_zero,List.take_succ_cons,List.drop_zero,List.drop_succ_cons,List.drop_nil,List.take_nil,Nat.le_refl,Nat.reduceMul,List.set_cons_zero,List.set_cons_succ,LV.scalar,List.all_cons,List.all_nil,Nat.lt_add_one,Nat.zero_lt_one,Nat.reduceLT,Nat.lt_irrefl,fillL,List.length_append,foldIntL,kind_beq,pures_int,solids_int,plains_int,unders_int,scalars_int,show ¬ ((i : Int) < (n : Int)) by omega]
  | succ t ih =>
    intro i l h1 hi hl hS
    have hin : i < n := by omega
    obtain ⟨l1,k1,k2,k3⟩ := ins_loop m b hb pre n i L hin hn hL i l (Nat.le_refl _) hl fun p q hpq hq hne => hS p q hpq (by omega)
    have hl1 : l1.length = n := by rw [k2.length_eq,hl]
    obtain ⟨l',k4,k5,k6⟩ := ih (i + 1) l1 (by omega) (by omega) hl1 (by simpa using k3)
    refine ⟨l',?_,k5.trans k2,k6⟩
    have wk := wrap_succ (show i + 1 < 9223372036854775808 by omega)
    rw [slices_insertionSortOrdered_int.L1_eq]
    simp only [slices_insertionSortOrdered_int.B1,beqT,beqF,exF_seq,exF_region,exF_block,exF_cond,exF_ret,exF_exit,exF_skip,runL,wantL,stepL,evL,evC,LEnv.at,putL,loadFine,loadL,cellsAt,Trk.putNew,Trk.up,Trk.touch,Trk.gives,Trk.calm,Trk.hit,opdsOf,Trk.fresh,LEnv.keep,LEnv.ofFrom,List.map_cons,List.map_nil,nbeq,nble,nblt,ofAV,ofAVs,lenL,bin_add,bin_sub,bin_mul,bin_eql,bin_neq,bin_lss,bin_leq,bin_gtr,bin_geq,natL_nat,natL_zero,natL_one,natL_two,Nat.zero_mul,List.any_cons,List.any_nil,Bool.or_false,Bool.false_or,Bool.true_or,Bool.or_true,Bool.and_true,Bool.true_and,Bool.and_false,Bool.false_and,Bool.not_true,Bool.not_false,Nat.reduceBEq,Nat.reduceEqDiff,decide_true,decide_false,cond_true,cond_false,List.filter_nil,List.filter_cons,Nat.reduceAdd,Nat.reduceLeDiff,reduceCtorEq,List.length_nil,List.length_cons,Nat.mul_one,if_true,if_false,Bool.false_eq_true,eq_self,and_true,true_and,retL,resultsL,resAllL,resOfL,List.append_nil,List.nil_append,List.cons_append,true_or,or_true,false_or,or_false,false_and,and_false,not_true_eq_false,not_false_eq_true,ne_eq,unL,trim_nil,views_pures,LV.pures,LV.pure,freeze,Nat.reduceDiv,Int.reduceEq,Int.reduceLT,Int.reduceLE,Int.natCast_zero,LV.cells,allocL,List.getElem?_cons_zero,List.getElem?_cons_succ,storeL,spliceL,List.take_zero,List.take_succ_cons,List.drop_zero,List.drop_succ_cons,List.drop_nil,List.take_nil,Nat.le_refl,Nat.reduceMul,List.set_cons_zero,List.set_cons_succ,LV.scalar,List.all_cons,List.all_nil,Nat.lt_add_one,Nat.zero_lt_one,Nat.reduceLT,Nat.lt_irrefl,fillL,List.length_append,foldIntL,kind_beq,pures_int,solids_int,plains_int,unders_int,scalars_int,show (i : Int) < (n : Int) by omega,k1,wk,k4]
end Go.Am.Top
