import Derived.Test.YtoppeojgadbjeaaTopC3
set_option linter.unusedVariables false
set_option linter.unusedSimpArgs false
set_option maxRecDepth 10000
namespace Go.Am.Top
open Go.Am.G
abbrev ci (l : List Nat) : List Int := l.map fun x : Nat => (x : Int)
end Go.Am.Top
set_option linter.unusedVariables false
set_option linter.unusedSimpArgs false
set_option maxRecDepth 10000
namespace Go.Am.Top
open Go.Am.G
def Qu (m : LMem) (v : LV) (T : List Int) : Prop :=
  (∃ nl ex z,v = .lst nl ex z T.length (T.map (LV.int .i64)) ∧ (nl = true ∨ ex = true) ∧ (T = [] ∨ z = 1) ∧ (nl = true → T = []) ∧ T.length ≤ 1) ∨
  (∃ b o cs,v = .sl b o T.length T.length 1 1 cs.length ∧ m[b]? = some ⟨cs,true⟩ ∧ cs.drop o = T.map (LV.int .i64) ∧ o + T.length = cs.length ∧ 0 < cs.length)
theorem Qu.lenL {m : LMem} {v : LV} {T : List Int} (h : Qu m v T) : lenL v = some T.length := by
  rcases h with ⟨_,_,_,rfl,_⟩ | ⟨_,_,_,rfl,_⟩ <;> rfl
theorem Qu.scalar {m : LMem} {v : LV} {T : List Int} (h : Qu m v T) : v.scalar = true := by
  rcases h with ⟨_,_,_,rfl,_⟩ | ⟨_,_,_,rfl,_⟩ <;> rfl
theorem Qu.cells {m : LMem} {v : LV} {T : List Int} (h : Qu m v T) : v.cells = some [v] := by
  rcases h with ⟨_,_,_,rfl,_⟩ | ⟨_,_,_,rfl,_⟩ <;> rfl
theorem Qu.mono {m m' : LMem} {v : LV} {T : List Int} (h : Qu m v T) (hm : ∀ i,isBlk v i → m'[i]? = m[i]?) : Qu m' v T := by
  rcases h with h | ⟨b,o,cs,rfl,h1,h2⟩
  · exact .inl h
  · exact .inr ⟨b,o,cs,rfl,by rw [hm b rfl]; exact h1,h2⟩
theorem Qu.lt {m : LMem} {v : LV} {T : List Int} (h : Qu m v T) (i : Nat) (hi : isBlk v i) : i < m.length := by
  rcases h with ⟨_,_,_,rfl,_⟩ | ⟨b,o,cs,rfl,h1,_⟩
  · exact absurd hi (by simp [isBlk])
  · cases hi; exact (List.getElem?_eq_some_iff.1 h1).1
theorem Qu.append {m : LMem} {v : LV} {T : List Int} (h : Qu m v T) (hT : T.length < 1000000) (x : Int) (ex0 : Bool) :
    ∃ v' m',appendL m 1 8 v (.lst false ex0 1 1 [.int .i64 x]) = some (v',m') ∧ Qu m' v' (T ++ [x]) ∧ (∀ i,i < m.length → ¬ isBlk v i → m'[i]? = m[i]?) ∧ m.length ≤ m'.length ∧ (∀ i,isBlk v' i → isBlk v i ∨ m.length ≤ i) := by
  have h3 : ∀ m,contents m 1 (.lst false ex0 1 1 [.int .i64 x]) = some ([.int .i64 x],1) := fun m => rfl
  have h4 : (Nat.ble ((T.length + 1) * 8) roomMost && Nat.ble (T.length + 1) roomMost && [LV.int .i64 x].all LV.scalar) = true := by rw [room_of hT]; rfl
  have hmap : (T ++ [x]).map (LV.int .i64) = T.map (LV.int .i64) ++ [.int .i64 x] := by simp
  have hlen : (T ++ [x]).length = T.length + 1 := by simp
  rcases h with ⟨nl,ex,z,rfl,hnl,hz,hT0,_⟩ | ⟨b,o,cs,rfl,h1,h2,h5,h6⟩
  · have h2 : contents m 1 (.lst nl ex z T.length (T.map (LV.int .i64))) = some (T.map (LV.int .i64),T.length) := by
      simp only [contents]
      rcases hz with rfl | rfl <;> simp [nbeq]
    have hq : (nl || ex) = true := by rcases hnl with rfl | rfl <;> simp
    refine ⟨.sl m.length 0 (T.length + 1) (T.length + 1) 1 1 (T.length + 1),m ++ [⟨T.map (LV.int .i64) ++ [.int .i64 x],true⟩],?_,.inr ⟨m.length,0,T.map (LV.int .i64) ++ [.int .i64 x],?_,by simp,?_,by simp,by simp⟩,fun i hi _ => by rw [List.getElem?_append_left hi],by simp,fun i hi => .inr (by cases hi; omega)⟩
    · unfold appendL
      simp only [h2,h3,h4,hq,newSl]
      simp [nbeq]
    · rw [hlen]; simp
    · rw [List.drop_zero,hmap]
  · have hb := (List.getElem?_eq_some_iff.1 h1).1
    have h2' : contents m 1 (.sl b o T.length T.length 1 1 cs.length) = some (T.map (LV.int .i64),T.length) := by
      simp only [contents,h1]
      simp only [nbeq,nble,decide_true,Nat.mul_one,h5,Nat.le_refl,Bool.and_self,cond_true,h2]
      rw [List.take_of_length_le (by simp)]
    have e1 : Nat.ble (T.length + 1) T.length = false := by rw [nble]; simp
    have e2 : Nat.blt 0 cs.length = true := by rw [nblt,decide_eq_true_eq]; exact h6
    by_cases q : cs.length < T.length + 1
    · have e3 : Nat.blt cs.length (T.length + 1) = true := by rw [nblt,decide_eq_true_eq]; exact q
      refine ⟨.sl b 0 (T.length + 1) (T.length + 1) 1 1 (T.length + 1),m.set b ⟨T.map (LV.int .i64) ++ [.int .i64 x],true⟩,?_,.inr ⟨b,0,T.map (LV.int .i64) ++ [.int .i64 x],?_,by simp [hb],?_,by simp,by simp⟩,fun i hi hne => ?_,by simp,fun i hi => .inl (by cases hi; rfl)⟩
      · unfold appendL
        simp only [h2',h3,h4]
        simp only [h1,e1,e2,Nat.mul_one,e3]
        simp [nbeq]
      · rw [hlen]; simp
      · rw [List.drop_zero,hmap]
      · have : ¬ b = i := fun e => hne e
        simp [List.getElem?_set,this]
    · have e3 : Nat.blt cs.length (T.length + 1) = false := by rw [nblt,decide_eq_false_iff_not]; omega
      refine ⟨.sl m.length 0 (T.length + 1) (T.length + 1) 1 1 (T.length + 1),m.set b ⟨[],false⟩ ++ [⟨T.map (LV.int .i64) ++ [.int .i64 x],true⟩],?_,.inr ⟨m.length,0,T.map (LV.int .i64) ++ [.int .i64 x],?_,?_,?_,by simp,by simp⟩,fun i hi hne => ?_,by simp,fun i hi => .inr (by cases hi; omega)⟩
      · unfold appendL
        simp only [h2',h3,h4]
        simp only [h1,e1,e2,Nat.mul_one,e3,newSl]
        simp [nbeq]
      · rw [hlen]; simp
      · rw [List.getElem?_append_right (by simp)]; simp
      · rw [List.drop_zero,hmap]
      · have : ¬ b = i := fun e => hne e
        rw [List.getElem?_append_left (by simpa using hi)]
        simp [List.getElem?_set,this]
structure AskV {β : Type} (q : Nat) (first cap : List LV) (N : Nat) (V : β → LMem → Prop) (step : β → Nat → β) (K : Nat) : Prop where
  call : ∀ b m x,V b m → x ≤ N → ∃ m',clF LP q (first ++ ([.int .i64 (x : Int)] ++ cap)) m = some (.W,.bool true,m') ∧ V (step b x) m'
  trim : ∀ b m k vs,V b m → K ≤ k → V b (trim k vs m)
  len : ∀ b m,V b m → K ≤ m.length
theorem besV_loop {β : Type} {q : Nat} {first cap : List LV} {V : β → LMem → Prop} {step : β → Nat → β} {K r c : Nat} {hs : List Int} (S : Sho r c hs) (A : AskV q first cap hs.length V step K) (nl ex : Bool) (sz p : Nat) (hp : p < hs.length) (b : β) (m : LMem) (hV : V b m) :
    ∃ e m',exF LP ebb_Shore_beside_1.L0 (BE (.func q first cap) p r c nl ex sz hs 0) m = some (.exit 0,[(0,.func q first cap),(1,.elt [.int .i64 (p : Int)] 0),(2,.elt (SH r c nl ex sz hs) 0)],m') ∧ V e m' ∧ (if hs.length ≤ p + c then step e hs.length else e) = (nbs p c hs.length).foldl step b := by
  have hle := S.le
  have hc1 := S.cb.1
  have hcl := S.cle
  have one : ∀ (k : Nat) (x : Int) (b : β) (m : LMem),V b m → k < 4 → ((nbI p c).map (LV.int .i64))[k]? = some (.int .i64 x) → ∃ m',exF LP ebb_Shore_beside_1.L0 (BE (.func q first cap) p r c nl ex sz hs k) m = exF LP ebb_Shore_beside_1.L0 (BE (.func q first cap) p r c nl ex sz hs (k + 1)) m' ∧ V (if skipB p c hs.length k x then b else step b x.toNat) m' := by
    intro k x b m hV hk hx
    cases hb : skipB p c hs.length k x
    · have h1 : ¬ x < 0 ∧ ¬ (hs.length : Int) ≤ x := by
        unfold skipB at hb
        simp only [Bool.or_eq_false_iff,decide_eq_false_iff_not] at hb
        exact hb.1.1
      obtain ⟨m',hcall,hv⟩ := A.call b m x.toNat hV (by omega)
      rw [show ((x.toNat : Nat) : Int) = x by omega] at hcall
      exact ⟨m',bes_ask q first cap S nl ex sz p k x hk hx hb _ _ hcall,hv⟩
    · exact ⟨m,bes_skip _ S nl ex sz p k x hk hx hb _,hV⟩
  have e0 : ∀ a,(if skipB p c hs.length 0 ((p : Int) - (c : Int)) then a else step a ((p : Int) - (c : Int)).toNat) = (if c ≤ p then [p - c] else []).foldl step a := by
    intro a
    by_cases h : c ≤ p
    · rw [if_neg (by simp [skipB]; omega),if_pos h,show ((p : Int) - (c : Int)).toNat = p - c by omega]; rfl
    · rw [if_pos (by simp [skipB]; omega),if_neg h]; rfl
  have e1 : ∀ a,(if skipB p c hs.length 1 ((p : Int) - 1) then a else step a ((p : Int) - 1).toNat) = (if 1 ≤ p ∧ p % c ≠ 0 then [p - 1] else []).foldl step a := by
    intro a
    by_cases h : 1 ≤ p ∧ p % c ≠ 0
    · rw [if_neg (by simp [skipB,h.2]; omega),if_pos h,show ((p : Int) - 1).toNat = p - 1 by omega]; rfl
    · rw [if_neg h]
      by_cases h0 : 1 ≤ p
      · have : p % c = 0 := by
          by_cases q : p % c = 0
          · exact q
          · exact absurd ⟨h0,q⟩ h
        rw [if_pos (by simp [skipB,this])]; rfl
      · rw [if_pos (by simp [skipB]; omega)]; rfl
  have ht : ((p : Int) + 1).tmod (c : Int) = (((p + 1) % c : Nat) : Int) := by
    rw [← tmod_nat]; rfl
  have e2 : ∀ a,(if skipB p c hs.length 2 ((p : Int) + 1) then a else step a ((p : Int) + 1).toNat) = (if p + 1 < hs.length ∧ (p + 1) % c ≠ 0 then [p + 1] else []).foldl step a := by
    intro a
    by_cases h : p + 1 < hs.length ∧ (p + 1) % c ≠ 0
    · have h2 : ¬ (((p + 1) % c : Nat) : Int) = 0 := by omega
      rw [if_neg (by unfold skipB; rw [ht]; simp only [h2,decide_false,Bool.and_false,Bool.or_false]; simp; omega),if_pos h,show ((p : Int) + 1).toNat = p + 1 by omega]; rfl
    · rw [if_neg h]
      by_cases h0 : p + 1 < hs.length
      · have : (((p + 1) % c : Nat) : Int) = 0 := by
          by_cases q : (p + 1) % c = 0
          · omega
          · exact absurd ⟨h0,q⟩ h
        rw [if_pos (by unfold skipB; rw [ht,this]; simp)]; rfl
      · rw [if_pos (by simp [skipB]; omega)]; rfl
  have e3 : ∀ a,(if skipB p c hs.length 3 ((p : Int) + (c : Int)) then a else step a ((p : Int) + (c : Int)).toNat) = (if p + c < hs.length then [p + c] else []).foldl step a := by
    intro a
    by_cases h : p + c < hs.length
    · rw [if_neg (by simp [skipB]; omega),if_pos h,show ((p : Int) + (c : Int)).toNat = p + c by omega]; rfl
    · rw [if_pos (by simp [skipB]; omega),if_neg h]; rfl
  obtain ⟨m0,s0,v0⟩ := one 0 _ b m hV (by omega) rfl
  rw [e0] at v0
  obtain ⟨m1,s1,v1⟩ := one 1 _ _ m0 v0 (by omega) rfl
  rw [e1] at v1
  obtain ⟨m2,s2,v2⟩ := one 2 _ _ m1 v1 (by omega) rfl
  rw [e2] at v2
  obtain ⟨m3,s3,v3⟩ := one 3 _ _ m2 v2 (by omega) rfl
  rw [e3] at v3
  have fin : ∀ m,exF LP ebb_Shore_beside_1.L0 (BE (.func q first cap) p r c nl ex sz hs (3 + 1)) m = some (.exit 0,[(0,.func q first cap),(1,.elt [.int .i64 (p : Int)] 0),(2,.elt (SH r c nl ex sz hs) 0)],m) := by
    intro m
    rw [ebb_Shore_beside_1.L0_eq]
    simp only [BE]
    simp only [ebb_Shore_beside_1.B0,beqT,beqF,exF_seq,exF_region,exF_block,exF_cond,exF_ret,exF_exit,exF_skip,runL,wantL,stepL,evL,evC,LEnv.at,putL,loadFine,loadL,cellsAt,Trk.putNew,Trk.up,Trk.touch,Trk.gives,Trk.calm,Trk.hit,opdsOf,Trk.fresh,LEnv.keep,LEnv.ofFrom,List.map_cons,List.map_nil,nbeq,nble,nblt,ofAV,ofAVs,lenL,bin_add,bin_sub,bin_mul,bin_eql,bin_neq,bin_lss,bin_leq,bin_gtr,bin_geq,natL_nat,natL_zero,natL_one,natL_two,Nat.zero_mul,List.any_cons,List.any_nil,Bool.or_false,Bool.false_or,Bool.true_or,Bool.or_true,Bool.and_true,Bool.true_and,Bool.and_false,Bool.false_and,Bool.not_true,Bool.not_false,Nat.reduceBEq,Nat.reduceEqDiff,decide_true,decide_false,cond_true,cond_false,List.filter_nil,List.filter_cons,Nat.reduceAdd,Nat.reduceLeDiff,reduceCtorEq,List.length_nil,List.length_cons,Nat.mul_one,if_true,if_false,Bool.false_eq_true,eq_self,and_true,true_and,retL,resultsL,resAllL,resOfL,List.append_nil,List.nil_append,List.cons_append,true_or,or_true,false_or,or_false,false_and,and_false,not_true_eq_false,not_false_eq_true,ne_eq,unL,trim_nil,views_pures,LV.pures,LV.pure,freeze,Nat.reduceDiv,Int.reduceEq,Int.reduceLT,Int.reduceLE,Int.natCast_zero,LV.cells,allocL,List.getElem?_cons_zero,List.getElem?_cons_succ,storeL,spliceL,List.take_zero,List.take_succ_cons,List.drop_zero,List.drop_succ_cons,List.drop_nil,List.take_nil,Nat.le_refl,Nat.reduceMul,List.set_cons_zero,List.set_cons_succ,LV.scalar,List.all_cons,List.all_nil,Nat.lt_add_one,Nat.zero_lt_one,Nat.reduceLT,Nat.lt_irrefl,fillL,List.length_append,foldIntL,kind_beq,pures_int,solids_int,plains_int,unders_int,scalars_int,show (((4 : Nat)) : Int) = 4 from rfl,Int.lt_irrefl]
  refine ⟨_,m3,s0.trans (s1.trans (s2.trans (s3.trans (fin _)))),v3,?_⟩
  unfold nbs
  simp only [List.foldl_append]
  by_cases h : hs.length ≤ p + c
  · rw [if_pos h,if_pos h]; rfl
  · rw [if_neg h,if_neg h]; rfl
theorem beside1_v {β : Type} {q : Nat} {first cap : List LV} {V : β → LMem → Prop} {step : β → Nat → β} {K r c : Nat} {hs : List Int} (S : Sho r c hs) (A : AskV q first cap hs.length V step K) (nl ex : Bool) (sz p : Nat) (hp : p < hs.length) (b : β) (m : LMem) (hV : V b m) :
    ∃ m',clF LP n_ebb_Shore_beside_1 [.func q first cap,.elt [.int .i64 (p : Int)] 0,.elt (SH r c nl ex sz hs) 0] m = some (.W,.tup [],m') ∧ V ((nbs p c hs.length).foldl step b) m' := by
  obtain ⟨e,m1,h1,hv,h2⟩ := besV_loop S A nl ex sz p hp b m hV
  have hle := S.le
  have hc := S.cb
  have hr := fun m => river_c r c hs nl ex sz m
  have w1 : IntKind.i64.wrap ((p : Int) - (c : Int)) = (p : Int) - (c : Int) := wrap_in (by omega)
  have w2 : IntKind.i64.wrap ((p : Int) - 1) = (p : Int) - 1 := wrap_in (by omega)
  have w3 : IntKind.i64.wrap ((p : Int) + 1) = (p : Int) + 1 := wrap_in (by omega)
  have w4 : IntKind.i64.wrap ((p : Int) + (c : Int)) = (p : Int) + (c : Int) := wrap_in (by omega)
  have w5 : IntKind.i64.wrap ((hs.length : Int) - (c : Int)) = (hs.length : Int) - (c : Int) := wrap_in (by omega)
  rw [← h2]
  simp only [BE,nbI,List.map_cons,List.map_nil,Int.natCast_zero] at h1
  have key : ∀ b' m',V b' m' → retL ebb_Shore_beside_1.results (exF LP ebb_Shore_beside_1.body (LEnv.ofFrom 0 [.func q first cap,.elt [.int .i64 (p : Int)] 0,.elt (SH r c nl ex sz hs) 0]) m) = some (.tup [],m') →
      ∃ m',clF LP n_ebb_Shore_beside_1 [.func q first cap,.elt [.int .i64 (p : Int)] 0,.elt (SH r c nl ex sz hs) 0] m = some (.W,.tup [],m') ∧ V b' m' := by
    intro b' m' hv h
    exact ⟨_,call_W lp_ebb_Shore_beside_1 rfl h,A.trim _ _ _ _ hv (A.len _ _ hV)⟩
  by_cases h : hs.length ≤ p + c
  · obtain ⟨m2,hq,hv2⟩ := A.call e m1 hs.length hv (Nat.le_refl _)
    simp only [List.cons_append,List.nil_append] at hq
    rw [if_pos h]
    refine key _ m2 hv2 ?_
    simp only [ebb_Shore_beside_1,ebb_Shore_beside_1.B,beqT,beqF,exF_seq,exF_region,exF_block,exF_cond,exF_ret,exF_exit,exF_skip,runL,wantL,stepL,evL,evC,LEnv.at,putL,loadFine,loadL,cellsAt,Trk.putNew,Trk.up,Trk.touch,Trk.gives,Trk.calm,Trk.hit,opdsOf,Trk.fresh,LEnv.keep,LEnv.ofFrom,List.map_cons,List.map_nil,nbeq,nble,nblt,ofAV,ofAVs,lenL,bin_add,bin_sub,bin_mul,bin_eql,bin_neq,bin_lss,bin_leq,bin_gtr,bin_geq,natL_nat,natL_zero,natL_one,natL_two,Nat.zero_mul,List.any_cons,List.any_nil,Bool.or_false,Bool.false_or,Bool.true_or,Bool.or_true,Bool.and_true,Bool.true_and,Bool.and_false,Bool.false_and,Bool.not_true,Bool.not_false,Nat.reduceBEq,Nat.reduceEqDiff,decide_true,decide_false,cond_true,cond_false,List.filter_nil,List.filter_cons,Nat.reduceAdd,Nat.reduceLeDiff,reduceCtorEq,List.length_nil,List.length_cons,Nat.mul_one,if_true,if_false,Bool.false_eq_true,eq_self,and_true,true_and,retL,resultsL,resAllL,resOfL,List.append_nil,List.nil_append,List.cons_append,true_or,or_true,false_or,or_false,false_and,and_false,not_true_eq_false,not_false_eq_true,ne_eq,unL,trim_nil,views_pures,LV.pures,LV.pure,freeze,Nat.reduceDiv,Int.reduceEq,Int.reduceLT,Int.reduceLE,Int.natCast_zero,LV.cells,allocL,List.getElem?_cons_zero,List.getElem?_cons_succ,storeL,spliceL,List.take_zero,List.take_succ_cons,List.drop_zero,List.drop_succ_cons,List.drop_nil,List.take_nil,Nat.le_refl,Nat.reduceMul,List.set_cons_zero,List.set_cons_succ,LV.scalar,List.all_cons,List.all_nil,Nat.lt_add_one,Nat.zero_lt_one,Nat.reduceLT,Nat.lt_irrefl,fillL,List.length_append,foldIntL,kind_beq,pures_int,solids_int,plains_int,unders_int,scalars_int,w1,w2,w3,w4,w5,h1,hr,hq,show (p : Int) ≥ (hs.length : Int) - (c : Int) by omega,show (hs.length : Int) - (c : Int) ≤ (p : Int) by omega]
  · rw [if_neg h]
    refine key _ m1 hv ?_
    simp only [ebb_Shore_beside_1,ebb_Shore_beside_1.B,beqT,beqF,exF_seq,exF_region,exF_block,exF_cond,exF_ret,exF_exit,exF_skip,runL,wantL,stepL,evL,evC,LEnv.at,putL,loadFine,loadL,cellsAt,Trk.putNew,Trk.up,Trk.touch,Trk.gives,Trk.calm,Trk.hit,opdsOf,Trk.fresh,LEnv.keep,LEnv.ofFrom,List.map_cons,List.map_nil,nbeq,nble,nblt,ofAV,ofAVs,lenL,bin_add,bin_sub,bin_mul,bin_eql,bin_neq,bin_lss,bin_leq,bin_gtr,bin_geq,natL_nat,natL_zero,natL_one,natL_two,Nat.zero_mul,List.any_cons,List.any_nil,Bool.or_false,Bool.false_or,Bool.true_or,Bool.or_true,Bool.and_true,Bool.true_and,Bool.and_false,Bool.false_and,Bool.not_true,Bool.not_false,Nat.reduceBEq,Nat.reduceEqDiff,decide_true,decide_false,cond_true,cond_false,List.filter_nil,List.filter_cons,Nat.reduceAdd,Nat.reduceLeDiff,reduceCtorEq,List.length_nil,List.length_cons,Nat.mul_one,if_true,if_false,Bool.false_eq_true,eq_self,and_true,true_and,retL,resultsL,resAllL,resOfL,List.append_nil,List.nil_append,List.cons_append,true_or,or_true,false_or,or_false,false_and,and_false,not_true_eq_false,not_false_eq_true,ne_eq,unL,trim_nil,views_pures,LV.pures,LV.pure,freeze,Nat.reduceDiv,Int.reduceEq,Int.reduceLT,Int.reduceLE,Int.natCast_zero,LV.cells,allocL,List.getElem?_cons_zero,List.getElem?_cons_succ,storeL,spliceL,List.take_zero,List.take_succ_cons,List.drop_zero,List.drop_succ_cons,List.drop_nil,List.take_nil,Nat.le_refl,Nat.reduceMul,List.set_cons_zero,List.set_cons_succ,LV.scalar,List.all_cons,List.all_nil,Nat.lt_add_one,Nat.zero_lt_one,Nat.reduceLT,Nat.lt_irrefl,fillL,List.length_append,foldIntL,kind_beq,pures_int,solids_int,plains_int,unders_int,scalars_int,w1,w2,w3,w4,w5,h1,hr,show ¬ (p : Int) ≥ (hs.length : Int) - (c : Int) by omega,show ¬ (hs.length : Int) - (c : Int) ≤ (p : Int) by omega]
end Go.Am.Top
