import Derived.Test.YtcckhkcchpfdoaaShareD3
set_option linter.unusedVariables false
set_option linter.unusedSimpArgs false
set_option maxRecDepth 10000
set_option maxHeartbeats 400000
namespace Go.Am.Share
open Go.Am.G
def rowR (l : List Int) : Row := ⟨decide (l = []),decide (l = []),bif decide (l = []) then 0 else 1,l⟩
theorem rowL_20 (q : List Nat) (M n : Nat) (hM : M ≤ 20) : Ok20 (rowL q M n) := fun x hx => by
  obtain ⟨j,_,rfl⟩ := List.mem_map.1 hx
  have := Nat.mod_lt (q.getD j 0) (show 0 < M + 1 by omega)
  omega
def isSl (v : LV) : Prop := match v with | .sl _ _ _ _ _ _ _ => True | _ => False
theorem app_sl {m m' : LMem} {bytes : Nat} {s v' a : LV} (h : appendL m 1 bytes s (.lst false true 1 1 [a]) = some (v',m')) : isSl v' := by
  unfold appendL at h
  split at h
  · rename_i olds n news k h1 h2
    have hk : k = 1 := by
      simp [contents,nbeq] at h2; exact h2.2.symm
    subst hk
    simp only [show Nat.beq 1 0 = false from rfl,cond_false] at h
    cases c : (Nat.ble ((n + 1) * bytes) roomMost && Nat.ble (n + 1) roomMost && news.all LV.scalar)
    · rw [c,cond_false] at h; cases h
    · rw [c,cond_true] at h
      split at h
      · rename_i nl ex z q cs
        cases c2 : (nl || ex)
        · rw [c2,cond_false] at h; cases h
        · rw [c2,cond_true] at h
          simp only [newSl,Option.some.injEq,Prod.mk.injEq] at h
          rw [← h.1]; trivial
      · split at h
        · cases h
        · simp only [Bool.cond_eq_ite] at h
          split at h
          · split at h
            · simp only [Option.some.injEq,Prod.mk.injEq] at h
              rw [← h.1]; trivial
            · cases h
          · split at h
            · simp only [newSl,Option.some.injEq,Prod.mk.injEq] at h
              rw [← h.1]; trivial
            · split at h
              · simp only [Option.some.injEq,Prod.mk.injEq] at h
                rw [← h.1]; trivial
              · cases h
      · cases h
  · cases h
theorem made_outer_sl (w : List Nat) (hw : w.length = 26) (hb : ∀ x ∈ w,x < 256) (M : Nat) (hM : M ≤ 20) (n : Nat) (hn : n ≤ 6) (r : Nat) (hr : r ≤ 4) (d : Nat) : ∀ (i : Nat) (P : LMem) (vo : LV),i + d = r → P[0]? = some ⟨bys w,true⟩ → Lst P vo 1 i ((rowsM w M n i).map RL) → ¬ isBlk vo 0 → (0 < i → isSl vo) →
    ∃ m' vo',exF LP law07_Heap_made.L1 [(3,.int .i64 (M : Int)),(9,vo),(10,.int .i64 (n : Int)),(29,.sl 0 2 r 4 0 6 26),(30,.int .i64 (r : Int)),(31,.int .i64 (i : Int))] P =
      some (.exit 0,[(9,vo')],m') ∧ Lst m' vo' 1 r ((rowsM w M n r).map RL) ∧ (0 < r → isSl vo') := by
  induction d with
  | zero =>
    intro i P vo hi h0 H hz hsl
    obtain rfl : i = r := by omega
    refine ⟨P,vo,?_,H,hsl⟩
    rw [law07_Heap_made.L1_eq]
    simp only [law07_Heap_made.B1,beqT,beqF,exF_seq,exF_region,exF_block,exF_cond,exF_ret,exF_exit,exF_skip,runL,wantL,stepL,evL,evC,LEnv.at,putL,loadFine,loadL,cellsAt,Trk.putNew,Trk.up,Trk.touch,Trk.gives,Trk.calm,Trk.hit,opdsOf,Trk.fresh,LEnv.keep,LEnv.ofFrom,List.map_cons,List.map_nil,nbeq,nble,nblt,ofAV,ofAVs,lenL,bin_add,bin_sub,bin_mul,bin_eql,bin_neq,bin_lss,bin_leq,bin_gtr,bin_geq,natL_nat,natL_zero,natL_one,natL_two,Nat.zero_mul,List.any_cons,List.any_nil,Bool.or_false,Bool.false_or,Bool.true_or,Bool.or_true,Bool.and_true,Bool.true_and,Bool.and_false,Bool.false_and,Bool.not_true,Bool.not_false,Nat.reduceBEq,Nat.reduceEqDiff,decide_true,decide_false,cond_true,cond_false,List.filter_nil,List.filter_cons,Nat.reduceAdd,Nat.reduceLeDiff,reduceCtorEq,List.length_nil,List.length_cons,Nat.mul_one,if_true,if_false,Bool.false_eq_true,eq_self,and_true,true_and,retL,resultsL,resAllL,resOfL,List.append_nil,List.nil_append,List.cons_append,true_or,or_true,false_or,or_false,false_and,and_false,not_true_eq_false,not_false_eq_true,ne_eq,unL,trim_nil,views_pures,LV.pures,LV.pure,freeze,Nat.reduceDiv,Int.reduceEq,Int.reduceLT,Int.reduceLE,Int.natCast_zero,LV.cells,allocL,List.getElem?_cons_zero,List.getElem?_cons_succ,storeL,spliceL,List.take_zero,List.take_succ_cons,List.drop_zero,List.drop_succ_cons,List.drop_nil,List.take_nil,Nat.le_refl,Nat.reduceMul,List.set_cons_zero,List.set_cons_succ,LV.scalar,List.all_cons,List.all_nil,Nat.lt_add_one,Nat.zero_lt_one,Nat.reduceLT,Nat.lt_irrefl,fillL,List.length_append,foldIntL,kind_beq,pures_int,solids_int,plains_int,unders_int,scalars_int,Int.lt_irrefl]
  | succ d ih =>
    intro i P vo hi h0 H hz hsl
    have hir : i < r := by omega
    have h6 := cut6_len hw (show i < 4 by omega)
    have hbl : (bys w).length = 26 := by simp [hw]
    have hcc := cut_cells (w := w) i
    have hlen6 : (bys (cut6 w i)).length = 6 := by simp [h6]
    have hin := made_inner M hM (cut6 w i) h6 (cut6_lt hb i) n hn vo (.sl 0 2 r 4 0 6 26) (.int .i64 (r : Int)) (.int .i64 (i : Int)) (P ++ [CB w i]) P.length true (by simp) n 0 (by omega)
    have e0 : rowL (cut6 w i) M 0 = [] := rfl
    rw [e0,GV_nil,GM_nil,List.append_nil] at hin
    simp only [Int.natCast_zero] at hin
    -- the row is shown,and goes to the end of the list
    obtain ⟨ids,hv,hids⟩ : ∃ ids,views ((P ++ [CB w i]) ++ GM (rowL (cut6 w i) M n)) [GV (P ++ [CB w i]).length (rowL (cut6 w i) M n)] = some ([RL (rowL (cut6 w i) M n)],ids) ∧ ∀ j ∈ ids,j = (P ++ [CB w i]).length := by
      by_cases hl : rowL (cut6 w i) M n = []
      · rw [hl]; exact ⟨[],views_pures _ _ (by simp [LV.pures,LV.pure,GV]),by simp⟩
      · refine ⟨_,views_one 92 _ _ _ _ (fun k => view_grow k (P ++ [CB w i]) (rowL (cut6 w i) M n)) (by simp [LV.pures,LV.pure,GV,hl]),?_⟩
        intro j hj
        rw [if_neg hl] at hj
        simpa using hj
    generalize hrow : rowL (cut6 w i) M n = row at *
    have hfz : ∀ j,j ≤ P.length → (freeze ids ((P ++ [CB w i]) ++ GM row))[j]? = (P ++ [CB w i])[j]? := fun j hj => by
      rw [Go.Am.G.freeze_get j ids _ (fun c => by have := hids j c; simp at this; omega),List.getElem?_append_left (by simp; omega)]
    have hP : ∀ j,j < P.length → (freeze ids ((P ++ [CB w i]) ++ GM row))[j]? = P[j]? := fun j hj => by
      rw [hfz j (by omega),List.getElem?_append_left hj]
    have H2 : Lst (freeze ids ((P ++ [CB w i]) ++ GM row)) vo 1 i ((rowsM w M n i).map RL) := H.mono fun j hj => hP j (H.lt j hj)
    have hlenF : P.length < (freeze ids ((P ++ [CB w i]) ++ GM row)).length := by rw [Go.Am.G.freeze_length]; simp
    obtain ⟨v',m',a1,a2,a3,a4,a5⟩ := H2.append (x := .lst false true 1 1 [RL row]) (k := 1) (bytes := 24) (news := [RL row]) rfl rfl (by omega) (by omega) rfl
    have e2 : (rowsM w M n i).map RL ++ [RL row] = (rowsM w M n (i + 1)).map RL := by rw [rowsM_succ,hrow]; simp
    rw [e2] at a2
    have h0l := (List.getElem?_eq_some_iff.1 h0).1
    obtain ⟨m2,vo2,e,H3⟩ := ih (i + 1) m' v' (by omega) (by rw [a3 0 (by omega) hz,hP 0 h0l]; exact h0) a2 (fun c => by rcases a5 0 c with c | c; exact hz c; omega) (fun _ => app_sl a1)
    refine ⟨m2,vo2,?_,H3⟩
    rw [law07_Heap_made.L1_eq,← e]
    have hws := wrap_succ (show i + 1 < 9223372036854775808 by omega)
    have hcl : (GV (P ++ [CB w i]).length row).cells = some [GV (P ++ [CB w i]).length row] := by unfold GV; split <;> rfl
    have hPl : (P ++ [CB w i])[P.length]? = some ⟨bys (cut6 w i),true⟩ := by simp
    have hidx : 2 + i * 6 + 6 ≤ 26 := by omega
    have hz1 : ∀ x : LBlk,(P ++ [x])[P.length]? = some x := fun x => by simp
    have hz2 : ∀ x y : LBlk,(P ++ [x]).set P.length y = P ++ [y] := fun x y => by simp
    have hsc := bys_scalar (cut6 w i)
    have hca : ∀ cs,(LV.agg cs).cells = some cs := fun _ => rfl
    have hdr : List.drop 6 [LV.int .u8 0,LV.int .u8 0,LV.int .u8 0,LV.int .u8 0,LV.int .u8 0,LV.int .u8 0] = [] := rfl
    have hof : ofAVs [.int .u8 0,.int .u8 0,.int .u8 0,.int .u8 0,.int .u8 0,.int .u8 0] = [LV.int .u8 0,LV.int .u8 0,LV.int .u8 0,LV.int .u8 0,LV.int .u8 0,LV.int .u8 0] := rfl
    have hn6 : n ≤ 6 := hn
    simp (maxSteps := 1000000) only [law07_Heap_made.B1,sliceArrL,optNatL,Option.map_none,Option.map_some,nble,Nat.zero_le,beqT,beqF,exF_seq,exF_region,exF_block,exF_cond,exF_ret,exF_exit,exF_skip,runL,wantL,stepL,evL,evC,LEnv.at,putL,loadFine,loadL,cellsAt,Trk.putNew,Trk.up,Trk.touch,Trk.gives,Trk.calm,Trk.hit,opdsOf,Trk.fresh,LEnv.keep,LEnv.ofFrom,List.map_cons,List.map_nil,nbeq,nble,nblt,ofAV,ofAVs,lenL,bin_add,bin_sub,bin_mul,bin_eql,bin_neq,bin_lss,bin_leq,bin_gtr,bin_geq,natL_nat,natL_zero,natL_one,natL_two,Nat.zero_mul,List.any_cons,List.any_nil,Bool.or_false,Bool.false_or,Bool.true_or,Bool.or_true,Bool.and_true,Bool.true_and,Bool.and_false,Bool.false_and,Bool.not_true,Bool.not_false,Nat.reduceBEq,Nat.reduceEqDiff,decide_true,decide_false,cond_true,cond_false,List.filter_nil,List.filter_cons,Nat.reduceAdd,Nat.reduceLeDiff,reduceCtorEq,List.length_nil,List.length_cons,Nat.mul_one,if_true,if_false,Bool.false_eq_true,eq_self,and_true,true_and,retL,resultsL,resAllL,resOfL,List.append_nil,List.nil_append,true_or,or_true,false_or,or_false,false_and,and_false,not_true_eq_false,not_false_eq_true,ne_eq,unL,trim_nil,LV.pures,LV.pure,Nat.reduceDiv,Int.reduceEq,Int.reduceLT,Int.reduceLE,Int.natCast_zero,allocL,List.getElem?_cons_zero,List.getElem?_cons_succ,storeL,spliceL,List.take_zero,List.take_succ_cons,List.drop_zero,List.drop_succ_cons,List.drop_nil,List.take_nil,Nat.le_refl,Nat.reduceMul,List.set_cons_zero,List.set_cons_succ,LV.scalar,List.all_cons,List.all_nil,Nat.lt_add_one,Nat.zero_lt_one,Nat.reduceLT,Nat.lt_irrefl,fillL,foldIntL,kind_beq,pures_int,solids_int,plains_int,unders_int,scalars_int,show ((i : Int) < (r : Int)) by omega,hir,h0,hbl,hcc,hlen6,hidx,hof,hca,hz1,hz2,hsc,hdr,Nat.zero_add,Nat.sub_zero,hn6,hin,hcl,hv,a1,hws]
theorem shifts_rl (n : Nat) (R : List (List Int)) : LV.shifts n (R.map RL) = R.map RL := by
  induction R with
  | nil => rfl
  | cons a r ih => simp only [List.map_cons,LV.shifts,ih]; rfl
theorem made_o (w : List Nat) (hw : w.length = 26) (hb : ∀ x ∈ w,x < 256) (F T M : Nat) (hF : 1 ≤ F ∧ F ≤ 4) (hT : T ≤ 6) (hM : M ≤ 20) (m : LMem) :
    ∃ (b : Nat) (m' : LMem),clF LP n_law07_Heap_made [.agg (bys w),.int .i64 (F : Int),.int .i64 (T : Int),.int .i64 (M : Int)] m = some (.O,.sl b 0 (1 + w.getD 0 0 % F) (1 + w.getD 0 0 % F) 1 1 (1 + w.getD 0 0 % F),m') ∧ m'[b]? = some ⟨(rowsM w M (w.getD 1 0 % (T + 1)) (1 + w.getD 0 0 % F)).map RL,true⟩ ∧ m.length ≤ b ∧ ∀ i,i < m.length → m'[i]? = m[i]? := by
  have h0 := getD_lt hb 0
  have h1 := getD_lt hb 1
  have hr := Nat.mod_lt (w.getD 0 0) (show 0 < F by omega)
  have hn := Nat.mod_lt (w.getD 1 0) (show 0 < T + 1 by omega)
  have a0 := bys_at (show 0 < w.length by omega)
  have a1 := bys_at (show 1 < w.length by omega)
  have hbl : (bys w).length = 26 := by simp [hw]
  have w0 : IntKind.i64.wrap ((w.getD 0 0 : Nat) : Int) = ((w.getD 0 0 : Nat) : Int) := wrap_in (by omega)
  have w1 : IntKind.i64.wrap ((w.getD 1 0 : Nat) : Int) = ((w.getD 1 0 : Nat) : Int) := wrap_in (by omega)
  have wT : IntKind.i64.wrap ((T : Int) + 1) = ((T + 1 : Nat) : Int) := by rw [wrap_in (by omega)]; simp
  have r0 := rem_nat (w.getD 0 0) F (by omega)
  have r1 := rem_nat (w.getD 1 0) (T + 1) (by omega)
  have wr : IntKind.i64.wrap (1 + ((w.getD 0 0 % F : Nat) : Int)) = ((1 + w.getD 0 0 % F : Nat) : Int) := by rw [wrap_in (by omega)]; simp
  obtain ⟨m',vo,e,H,hsl⟩ := made_outer_sl w hw hb M hM (w.getD 1 0 % (T + 1)) (by omega) (1 + w.getD 0 0 % F) (by omega) (1 + w.getD 0 0 % F) 0 [⟨bys w,true⟩] (.lst true true 0 0 []) (by omega) rfl (Lst.nil _ 1) (fun h => h) (fun h => absurd h (by omega))
  have hsl := hsl (by omega)
  obtain ⟨b,rfl,hbm,hbl'⟩ : ∃ b,vo = .sl b 0 (1 + w.getD 0 0 % F) (1 + w.getD 0 0 % F) 1 1 (1 + w.getD 0 0 % F) ∧ m'[b]? = some ⟨(rowsM w M (w.getD 1 0 % (T + 1)) (1 + w.getD 0 0 % F)).map RL,true⟩ ∧ True := by
    rcases H with ⟨nl,ex,z,rfl,_⟩ | ⟨b,rfl,h1,_⟩
    · exact absurd hsl (fun h => h)
    · exact ⟨b,by rw [Nat.mul_one],h1,trivial⟩
  have hpure : LV.pures [LV.agg (bys w),.int .i64 (F : Int),.int .i64 (T : Int),.int .i64 (M : Int)] = true := by simp only [LV.pures,LV.pure,pures_int,Bool.and_true]
  have hle4 : 1 + w.getD 0 0 % F ≤ 4 := by omega
  have hrun : retL law07_Heap_made.results (exF LP law07_Heap_made.body (LEnv.ofFrom 0 [LV.agg (bys w),.int .i64 (F : Int),.int .i64 (T : Int),.int .i64 (M : Int)]) []) = some (.sl b 0 (1 + w.getD 0 0 % F) (1 + w.getD 0 0 % F) 1 1 (1 + w.getD 0 0 % F),m') := by
    clear hbm
    simp only [Int.natCast_zero] at e
    generalize 1 + w.getD 0 0 % F = r at *
    generalize w.getD 1 0 % (T + 1) = n at *
    generalize w.getD 0 0 % F = rr at *
    generalize w.getD 0 0 = x0 at *
    generalize w.getD 1 0 = x1 at *
    generalize bys w = W at *
    simp only [law07_Heap_made,law07_Heap_made.B,sliceArrL,optNatL,Option.map_none,Option.map_some,nble,Nat.zero_le,Nat.add_zero,Nat.sub_zero,beqT,beqF,exF_seq,exF_region,exF_block,exF_cond,exF_ret,exF_exit,exF_skip,runL,wantL,stepL,evL,evC,LEnv.at,putL,loadFine,loadL,cellsAt,Trk.putNew,Trk.up,Trk.touch,Trk.gives,Trk.calm,Trk.hit,opdsOf,Trk.fresh,LEnv.keep,LEnv.ofFrom,List.map_cons,List.map_nil,nbeq,nble,nblt,ofAV,ofAVs,lenL,bin_add,bin_sub,bin_mul,bin_eql,bin_neq,bin_lss,bin_leq,bin_gtr,bin_geq,natL_nat,natL_zero,natL_one,natL_two,Nat.zero_mul,List.any_cons,List.any_nil,Bool.or_false,Bool.false_or,Bool.true_or,Bool.or_true,Bool.and_true,Bool.true_and,Bool.and_false,Bool.false_and,Bool.not_true,Bool.not_false,Nat.reduceBEq,Nat.reduceEqDiff,decide_true,decide_false,cond_true,cond_false,List.filter_nil,List.filter_cons,Nat.reduceAdd,Nat.reduceLeDiff,reduceCtorEq,List.length_nil,List.length_cons,Nat.mul_one,if_true,if_false,Bool.false_eq_true,eq_self,and_true,true_and,retL,resultsL,resAllL,resOfL,List.append_nil,List.nil_append,List.cons_append,true_or,or_true,false_or,or_false,false_and,and_false,not_true_eq_false,not_false_eq_true,ne_eq,unL,trim_nil,views_pures,LV.pures,LV.pure,freeze,Nat.reduceDiv,Int.reduceEq,Int.reduceLT,Int.reduceLE,Int.natCast_zero,LV.cells,allocL,List.getElem?_cons_zero,List.getElem?_cons_succ,storeL,spliceL,List.take_zero,List.take_succ_cons,List.drop_zero,List.drop_succ_cons,List.drop_nil,List.take_nil,Nat.le_refl,Nat.reduceMul,List.set_cons_zero,List.set_cons_succ,LV.scalar,List.all_cons,List.all_nil,Nat.lt_add_one,Nat.zero_lt_one,Nat.reduceLT,Nat.lt_irrefl,fillL,List.length_append,foldIntL,kind_beq,pures_int,solids_int,plains_int,unders_int,scalars_int,hbl,a0,a1,w0,w1,wT,r0,r1,wr,hle4,e]
  have hcall := call_O lp_law07_Heap_made rfl hpure hrun m
  refine ⟨b + m.length,_,hcall,?_,by omega,fun i hi => by rw [List.getElem?_append_left hi]⟩
  rw [List.getElem?_append_right (by omega),show b + m.length - m.length = b by omega,List.getElem?_map,hbm]
  simp only [Option.map_some,shifts_rl]
theorem call_sh {C : LProg} {f : Nat} {lf : LFunc} (hC : C f = some lf) (hm : lf.mode = .P) {args vs : List LV} {ids : List Nat} {m : LMem} (hv : views m args = some (vs,ids)) (hp : LV.pures vs = true) {v : LV} (hc : clF C f vs [] = some (.P,v,[])) : clF C f args m = some (.P,v,m) ∨ clF C f args m = some (.P,v,freeze ids m) := by
  rw [clF_eq,hC] at hc ⊢
  simp only [callMode,hm,views_pures [] vs hp,hv] at hc ⊢
  split at hc
  · rename_i v1 m1 hr
    split at hc
    · rename_i v2 ids1 hv2
      simp only [Option.some.injEq,Prod.mk.injEq] at hc
      obtain ⟨_,rfl,_⟩ := hc
      cases (ids.isEmpty || (v2.plain || newIds v1 m1 ids1))
      · exact .inr rfl
      · exact .inl rfl
    · cases hc
  · cases hc
theorem view_at {m : LMem} {b n : Nat} {l : List Int} {o : Bool} (hn : l.length = n) (h : m[b]? = some ⟨ints l,o⟩) (hne : l ≠ []) : ∀ k,view (k + 3) m (.sl b 0 n n 1 1 n) = some (IL false false 1 l,[b]) := fun k => by
  have := view_sl k m b 0 n n 1 l o h hn (by omega) n (Nat.le_refl _)
  rw [List.drop_zero,List.take_of_length_le (by omega)] at this
  rw [this]
  have : n ≠ 0 := fun c => hne (List.length_eq_zero_iff.1 (by omega))
  simp [nbeq,this]
def Hold (m : LMem) (v : LV) (l : List Int) : Prop :=
  (l = [] ∧ v = .lst true true 0 0 []) ∨ (l ≠ [] ∧ ∃ b o,v = .sl b 0 l.length l.length 1 1 l.length ∧ m[b]? = some ⟨ints l,o⟩)
theorem Hold.mono {m m' : LMem} {v : LV} {l : List Int} (H : Hold m v l) (h : ∀ i,isBlk v i → m'[i]? = m[i]?) : Hold m' v l := by
  rcases H with H | ⟨h1,b,o,h2,h3⟩
  · exact .inl H
  · exact .inr ⟨h1,b,o,h2,by rw [h b (by rw [h2]; rfl)]; exact h3⟩
theorem Hold.gv (P : LMem) (l : List Int) : Hold (P ++ GM l) (GV P.length l) l := by
  unfold GV GM
  by_cases h : l = []
  · rw [if_pos h,if_pos h]; exact .inl ⟨h,rfl⟩
  · rw [if_neg h,if_neg h]; exact .inr ⟨h,P.length,true,rfl,by simp⟩
theorem views_in (m : LMem) (a v v' : LV) (ids : List Nat) (r : List LV) (hv : ∀ k,view (k + 3) m v = some (v',ids)) (ha : a.pure = true) (hr : LV.pures r = true) (hnp : v.pure = false) (hl : r.length ≤ 4) : views m (a :: v :: r) = some (a :: v' :: r,ids) := by
  have hva : ∀ k,view (k + 3) m a = some (a,[]) := fun k => view_pure (k + 1) m a ha
  have hC : ∀ (r : List LV) k,LV.pures r = true → r.length + 4 ≤ k → viewC k m r = some (r,[]) := by
    intro r
    induction r with
    | nil =>
      intro k _ hk
      obtain ⟨k,rfl⟩ : ∃ q,k = q + 1 := ⟨k - 1,by omega⟩
      rw [viewC.eq_def]
    | cons x r ih =>
      intro k hp hk
      obtain ⟨k,rfl⟩ : ∃ q,k = q + 4 := ⟨k - 4,by omega⟩
      simp only [LV.pures,Bool.and_eq_true] at hp
      simp only [List.length_cons] at hk
      rw [viewC.eq_def]
      simp only [view_pure (k + 1) m x hp.1,ih (k + 3) hp.2 (by omega)]
      rfl
  have hp : LV.pures (a :: v :: r) = false := by simp only [LV.pures,hnp,Bool.false_and,Bool.and_false]
  unfold views
  rw [viewL.eq_def]
  simp only [hp,cond_false]
  rw [viewC.eq_def]
  simp only [hva 95]
  rw [viewC.eq_def]
  simp only [hv 94]
  rw [hC r 97 hr (by omega)]
  simp
theorem Hold.call {m : LMem} {v : LV} {l : List Int} (H : Hold m v l) {f : Nat} {lf : LFunc} (hC : LP f = some lf) (hmd : lf.mode = .P) {a : LV} (ha : a.pure = true) {r : List LV} (hr : LV.pures r = true) (hlr : r.length ≤ 4) {x : LV} (hc : ∀ (b c : Bool) (z : Nat),(l = [] ∨ z = 1) → (b = true → l = []) → ∀ m,clF LP f (a :: IL b c z l :: r) m = some (.P,x,m)) :
    ∃ m',clF LP f (a :: v :: r) m = some (.P,x,m') ∧ Hold m' v l ∧ (∀ i,¬ isBlk v i → m'[i]? = m[i]?) ∧ m'.length = m.length := by
  rcases H with ⟨h1,h2⟩ | ⟨h1,b,o,h2,h3⟩
  · subst h1
    subst h2
    exact ⟨m,hc true true 0 (.inl rfl) (fun _ => rfl) m,.inl ⟨rfl,rfl⟩,fun _ _ => rfl,rfl⟩
  · subst h2
    have hv := views_in m a _ _ _ r (view_at rfl h3 h1) ha hr (by simp [LV.pure]) hlr
    have hpv : LV.pures (a :: IL false false 1 l :: r) = true := by simp only [LV.pures,LV.pure,ha,hr,pures_int,Bool.and_true]
    rcases call_sh hC hmd hv hpv (hc false false 1 (.inr rfl) (fun h => by cases h) []) with h | h
    · exact ⟨m,h,.inr ⟨h1,b,o,rfl,h3⟩,fun _ _ => rfl,rfl⟩
    · refine ⟨_,h,.inr ⟨h1,b,false,rfl,?_⟩,fun i hi => ?_,Go.Am.G.freeze_length _ _⟩
      · have hb := (List.getElem?_eq_some_iff.1 h3).1
        simp only [freeze,freeze1,h3]
        rw [List.getElem?_set_self hb]
      · exact Go.Am.G.freeze_get i [b] m (by simp; intro e; exact hi (by rw [e]; rfl))
def owL (cs : List Nat) (r k : Nat) : List Int := (List.range k).map fun j => ((cs.getD j 0 % r : Nat) : Int)
theorem owL_len (cs : List Nat) (r k : Nat) : (owL cs r k).length = k := by simp [owL]
theorem owL_succ (cs : List Nat) (r k : Nat) : owL cs r (k + 1) = owL cs r k ++ [((cs.getD k 0 % r : Nat) : Int)] := by simp [owL,List.range_succ]
theorem owL_lt (cs : List Nat) (r k : Nat) (hr : 0 < r) : ∀ x ∈ owL cs r k,0 ≤ x ∧ x < (r : Int) := fun x hx => by
  obtain ⟨j,_,rfl⟩ := List.mem_map.1 hx
  have := Nat.mod_lt (cs.getD j 0) hr
  omega
theorem in_lok {rs : List Row} {o : List Int} (D : LOk rs o) {b : Bool} {z : Nat} (h1 : o = [] ∨ z = 1) (h2 : b = true → o = []) : In rs b z o where
  hl := by have := D.le4; omega
  hr r hr := by
    obtain ⟨i,hi,e⟩ := List.getElem_of_mem hr
    have := D.len i hi
    have := D.le6
    rw [← e]; omega
  ho := by have := D.le6; omega
  hsz := h1
  hnl := h2
theorem Hold.lt {m : LMem} {v : LV} {l : List Int} (H : Hold m v l) (i : Nat) (h : isBlk v i) : i < m.length := by
  rcases H with ⟨_,h2⟩ | ⟨_,b,o,h2,h3⟩
  · rw [h2] at h; cases h
  · rw [h2] at h; cases h; exact (List.getElem?_eq_some_iff.1 h3).1
end Go.Am.Share
set_option linter.unusedVariables false
set_option linter.unusedSimpArgs false
set_option maxRecDepth 10000
set_option maxHeartbeats 400000
namespace Go.Am.Share
open Go.Am.G
theorem set_mapf {α β : Type} (f : α → β) (l : List α) (i : Nat) (x : α) (h : i < l.length) : (l.map f).take i ++ [f x] ++ (l.map f).drop (i + 1) = (l.set i x).map f := by
  rw [List.map_set,List.set_eq_take_append_cons_drop,if_pos (by simpa using h)]
  simp
theorem set_same' {α : Type} {m : List α} {i : Nat} {b : α} (h : m[i]? = some b) : m.set i b = m := by
  apply List.ext_getElem?
  intro j
  by_cases c : i = j
  · subst c
    rw [List.getElem?_set_self (List.getElem?_eq_some_iff.1 h).1,h]
  · rw [List.getElem?_set_ne c]
def akR (R : List (List Int)) (i : Nat) : List (List Int) := List.replicate i (R.headD []) ++ R.drop i
theorem akR_len (R : List (List Int)) {i : Nat} (h : i ≤ R.length) : (akR R i).length = R.length := by simp [akR]; omega
theorem akR_0 {R : List (List Int)} (hR : R ≠ []) {i : Nat} : (akR R i)[0]? = some (R.headD []) := by
  obtain ⟨a,r,rfl⟩ := List.exists_cons_of_ne_nil hR
  cases i with
  | zero => rfl
  | succ i => simp [akR,List.replicate_succ]
theorem akR_set (R : List (List Int)) {i : Nat} (h : i < R.length) : (akR R i).set i (R.headD []) = akR R (i + 1) := by
  unfold akR
  rw [List.set_append_right _ _ (by simp),List.drop_eq_getElem_cons h,List.length_replicate,Nat.sub_self,List.set_cons_zero,List.replicate_succ',List.append_assoc]
  rfl
abbrev SLv (b n : Nat) : LV := .sl b 0 n n 1 1 n
theorem alike_L0 (R : List (List Int)) (hR : R ≠ []) (hl : R.length < 1000) (b : Nat) (V3 : LV) (d : Nat) : ∀ (k : Nat) (M : LMem),k + d = R.length → M[b]? = some ⟨(akR R k).map RL,true⟩ →
    exF LP law07_ShareAlike.L0 [(3,V3),(5,SLv b R.length),(22,.int .i64 (R.length : Int)),(23,.int .i64 (k : Int))] M = some (.exit 0,[(3,V3),(5,SLv b R.length)],M.set b ⟨(akR R R.length).map RL,true⟩) := by
  induction d with
  | zero =>
    intro k M hk hM
    obtain rfl : k = R.length := by omega
    rw [law07_ShareAlike.L0_eq,set_same' hM]
    simp only [law07_ShareAlike.B0,beqT,beqF,exF_seq,exF_region,exF_block,exF_cond,exF_ret,exF_exit,exF_skip,runL,wantL,stepL,evL,evC,LEnv.at,putL,loadFine,loadL,cellsAt,Trk.putNew,Trk.up,Trk.touch,Trk.gives,Trk.calm,Trk.hit,opdsOf,Trk.fresh,LEnv.keep,LEnv.ofFrom,List.map_cons,List.map_nil,nbeq,nble,nblt,ofAV,ofAVs,lenL,bin_add,bin_sub,bin_mul,bin_eql,bin_neq,bin_lss,bin_leq,bin_gtr,bin_geq,natL_nat,natL_zero,natL_one,natL_two,Nat.zero_mul,List.any_cons,List.any_nil,Bool.or_false,Bool.false_or,Bool.true_or,Bool.or_true,Bool.and_true,Bool.true_and,Bool.and_false,Bool.false_and,Bool.not_true,Bool.not_false,Nat.reduceBEq,Nat.reduceEqDiff,decide_true,decide_false,cond_true,cond_false,List.filter_nil,List.filter_cons,Nat.reduceAdd,Nat.reduceLeDiff,reduceCtorEq,List.length_nil,List.length_cons,Nat.mul_one,if_true,if_false,Bool.false_eq_true,eq_self,and_true,true_and,retL,resultsL,resAllL,resOfL,List.append_nil,List.nil_append,List.cons_append,true_or,or_true,false_or,or_false,false_and,and_false,not_true_eq_false,not_false_eq_true,ne_eq,unL,trim_nil,views_pures,LV.pures,LV.pure,freeze,Nat.reduceDiv,Int.reduceEq,Int.reduceLT,Int.reduceLE,Int.natCast_zero,LV.cells,allocL,List.getElem?_cons_zero,List.getElem?_cons_succ,storeL,spliceL,List.take_zero,List.take_succ_cons,List.drop_zero,List.drop_succ_cons,List.drop_nil,List.take_nil,Nat.le_refl,Nat.reduceMul,List.set_cons_zero,List.set_cons_succ,LV.scalar,List.all_cons,List.all_nil,Nat.lt_add_one,Nat.zero_lt_one,Nat.reduceLT,Nat.lt_irrefl,fillL,List.length_append,foldIntL,kind_beq,pures_int,solids_int,plains_int,unders_int,scalars_int,Int.lt_irrefl]
  | succ d ih =>
    intro k M hk hM
    have hkk : k < R.length := by omega
    have hki : (k : Int) < (R.length : Int) := by omega
    have hb := (List.getElem?_eq_some_iff.1 hM).1
    have hws := wrap_succ (show k + 1 < 9223372036854775808 by omega)
    have hpos : 0 < R.length := by omega
    have h0 : ((akR R k).map RL)[0]? = some (RL (R.headD [])) := by rw [List.getElem?_map,akR_0 hR]; rfl
    have hlen : ((akR R k).map RL).length = R.length := by rw [List.length_map,akR_len R (by omega)]
    have hset := set_mapf RL (akR R k) k (R.headD []) (by rw [akR_len R (by omega)]; exact hkk)
    rw [akR_set R hkk] at hset
    have := ih (k + 1) (M.set b ⟨(akR R (k + 1)).map RL,true⟩) (by omega) (List.getElem?_set_self hb)
    rw [List.set_set] at this
    rw [← this,law07_ShareAlike.L0_eq]
    have hca : (RL (R.headD [])).cells = some [RL (R.headD [])] := rfl
    have hsc : LV.scalar (RL (R.headD [])) = true := rfl
    have l0 : lenL (SLv b R.length) = some R.length := rfl
    generalize (akR R k).map RL = C1 at *
    generalize (akR R (k + 1)).map RL = C2 at *
    generalize RL (R.headD []) = h at *
    simp only [law07_ShareAlike.B0,beqT,beqF,exF_seq,exF_region,exF_block,exF_cond,exF_ret,exF_exit,exF_skip,runL,wantL,stepL,evL,evC,LEnv.at,putL,loadFine,loadL,cellsAt,Trk.putNew,Trk.up,Trk.touch,Trk.gives,Trk.calm,Trk.hit,opdsOf,Trk.fresh,LEnv.keep,LEnv.ofFrom,List.map_cons,List.map_nil,nbeq,nble,nblt,ofAV,ofAVs,bin_add,bin_sub,bin_mul,bin_eql,bin_neq,bin_lss,bin_leq,bin_gtr,bin_geq,natL_nat,natL_zero,natL_one,natL_two,Nat.zero_mul,List.any_cons,List.any_nil,Bool.or_false,Bool.false_or,Bool.true_or,Bool.or_true,Bool.and_true,Bool.true_and,Bool.and_false,Bool.false_and,Bool.not_true,Bool.not_false,Nat.reduceBEq,Nat.reduceEqDiff,decide_true,decide_false,cond_true,cond_false,List.filter_nil,List.filter_cons,Nat.reduceAdd,Nat.reduceLeDiff,reduceCtorEq,List.length_nil,List.length_cons,Nat.mul_one,if_true,if_false,Bool.false_eq_true,eq_self,and_true,true_and,retL,resultsL,resAllL,resOfL,List.append_nil,List.nil_append,List.cons_append,true_or,or_true,false_or,or_false,false_and,and_false,not_true_eq_false,not_false_eq_true,ne_eq,unL,trim_nil,views_pures,LV.pures,LV.pure,freeze,Nat.reduceDiv,Int.reduceEq,Int.reduceLT,Int.reduceLE,Int.natCast_zero,allocL,List.getElem?_cons_zero,List.getElem?_cons_succ,storeL,spliceL,List.take_zero,List.take_succ_cons,List.drop_zero,List.drop_succ_cons,List.drop_nil,List.take_nil,Nat.le_refl,Nat.reduceMul,List.set_cons_zero,List.set_cons_succ,List.all_cons,List.all_nil,Nat.lt_add_one,Nat.zero_lt_one,Nat.reduceLT,Nat.lt_irrefl,fillL,List.length_append,foldIntL,kind_beq,pures_int,solids_int,plains_int,unders_int,scalars_int,hki,hkk,Nat.zero_add,hM,hlen,hpos,h0,hca,hsc,hset,hws,Nat.succ_le_of_lt hkk]
theorem alike_L1 (cs : List Nat) (hc6 : cs.length = 6) (hcb : ∀ x ∈ cs,x < 256) (P : LMem) (h1 : P[1]? = some ⟨bys cs,true⟩) (b r : Nat) (hr : 0 < r ∧ r ≤ 4) (n : Nat) (hn : n ≤ 6) (d : Nat) : ∀ k,k + d = n →
    exF LP law07_ShareAlike.L1 [(3,.ptr 1 0 6),(5,SLv b r),(7,GV P.length (owL cs r k)),(36,.int .i64 (n : Int)),(37,.int .i64 (k : Int))] (P ++ GM (owL cs r k)) =
      some (.exit 2,[(5,SLv b r),(7,GV P.length (owL cs r n))],P ++ GM (owL cs r n)) := by
  induction d with
  | zero =>
    intro k hk
    obtain rfl : k = n := by omega
    rw [law07_ShareAlike.L1_eq]
    simp only [law07_ShareAlike.B1,beqT,beqF,exF_seq,exF_region,exF_block,exF_cond,exF_ret,exF_exit,exF_skip,runL,wantL,stepL,evL,evC,LEnv.at,putL,loadFine,loadL,cellsAt,Trk.putNew,Trk.up,Trk.touch,Trk.gives,Trk.calm,Trk.hit,opdsOf,Trk.fresh,LEnv.keep,LEnv.ofFrom,List.map_cons,List.map_nil,nbeq,nble,nblt,ofAV,ofAVs,lenL,bin_add,bin_sub,bin_mul,bin_eql,bin_neq,bin_lss,bin_leq,bin_gtr,bin_geq,natL_nat,natL_zero,natL_one,natL_two,Nat.zero_mul,List.any_cons,List.any_nil,Bool.or_false,Bool.false_or,Bool.true_or,Bool.or_true,Bool.and_true,Bool.true_and,Bool.and_false,Bool.false_and,Bool.not_true,Bool.not_false,Nat.reduceBEq,Nat.reduceEqDiff,decide_true,decide_false,cond_true,cond_false,List.filter_nil,List.filter_cons,Nat.reduceAdd,Nat.reduceLeDiff,reduceCtorEq,List.length_nil,List.length_cons,Nat.mul_one,if_true,if_false,Bool.false_eq_true,eq_self,and_true,true_and,retL,resultsL,resAllL,resOfL,List.append_nil,List.nil_append,List.cons_append,true_or,or_true,false_or,or_false,false_and,and_false,not_true_eq_false,not_false_eq_true,ne_eq,unL,trim_nil,views_pures,LV.pures,LV.pure,freeze,Nat.reduceDiv,Int.reduceEq,Int.reduceLT,Int.reduceLE,Int.natCast_zero,LV.cells,allocL,List.getElem?_cons_zero,List.getElem?_cons_succ,storeL,spliceL,List.take_zero,List.take_succ_cons,List.drop_zero,List.drop_succ_cons,List.drop_nil,List.take_nil,Nat.le_refl,Nat.reduceMul,List.set_cons_zero,List.set_cons_succ,LV.scalar,List.all_cons,List.all_nil,Nat.lt_add_one,Nat.zero_lt_one,Nat.reduceLT,Nat.lt_irrefl,fillL,List.length_append,foldIntL,kind_beq,pures_int,solids_int,plains_int,unders_int,scalars_int,Int.lt_irrefl]
  | succ d ih =>
    intro k hk
    have ih := ih (k + 1) (by omega)
    have hk6 : k < cs.length := by omega
    have hk6' : k < 6 := by omega
    have hbl : (bys cs).length = 6 := by simp [hc6]
    have hat := bys_at hk6
    have hx := getD_lt hcb k
    have hwr : IntKind.i64.wrap ((cs.getD k 0 : Nat) : Int) = ((cs.getD k 0 : Nat) : Int) := wrap_in (by omega)
    have hrm := rem_nat (cs.getD k 0) r (by omega)
    have ha := append_grow P (owL cs r k) ((cs.getD k 0 % r : Nat) : Int) true (by rw [owL_len]; omega)
    rw [← owL_succ] at ha
    have hvx : ∀ (x : Int) m,views m [.int .i64 x] = some ([.int .i64 x],[]) := fun x m => views_pures m _ (by simp [LV.pures,LV.pure])
    have hws := wrap_succ (show k + 1 < 9223372036854775808 by omega)
    have hl1 := (List.getElem?_eq_some_iff.1 h1).1
    have hm1 : (P ++ GM (owL cs r k))[1]? = some ⟨bys cs,true⟩ := by rw [List.getElem?_append_left hl1]; exact h1
    have l0 : lenL (SLv b r) = some r := rfl
    have hci : ∀ n : Int,(LV.int .i64 n).cells = some [.int .i64 n] := fun _ => rfl
    generalize cs.getD k 0 % r = y at *
    generalize cs.getD k 0 = x at *
    generalize P ++ GM (owL cs r k) = M0 at *
    generalize P ++ GM (owL cs r (k + 1)) = M2 at *
    generalize GV P.length (owL cs r k) = g1 at *
    generalize GV P.length (owL cs r (k + 1)) = g2 at *
    generalize bys cs = wc at *
    rw [law07_ShareAlike.L1_eq]
    simp only [law07_ShareAlike.B1,law07_ShareAlike.B1.R0,beqT,beqF,exF_seq,exF_region,exF_block,exF_cond,exF_ret,exF_exit,exF_skip,runL,wantL,stepL,evL,evC,LEnv.at,putL,loadFine,loadL,cellsAt,Trk.putNew,Trk.up,Trk.touch,Trk.gives,Trk.calm,Trk.hit,opdsOf,Trk.fresh,LEnv.keep,LEnv.ofFrom,List.map_cons,List.map_nil,nbeq,nble,nblt,ofAV,ofAVs,lenL,bin_add,bin_sub,bin_mul,bin_eql,bin_neq,bin_lss,bin_leq,bin_gtr,bin_geq,natL_nat,natL_zero,natL_one,natL_two,Nat.zero_mul,List.any_cons,List.any_nil,Bool.or_false,Bool.false_or,Bool.true_or,Bool.or_true,Bool.and_true,Bool.true_and,Bool.and_false,Bool.false_and,Bool.not_true,Bool.not_false,Nat.reduceBEq,Nat.reduceEqDiff,decide_true,decide_false,cond_true,cond_false,List.filter_nil,List.filter_cons,Nat.reduceAdd,Nat.reduceLeDiff,reduceCtorEq,List.length_nil,List.length_cons,Nat.mul_one,if_true,if_false,Bool.false_eq_true,eq_self,and_true,true_and,retL,resultsL,resAllL,resOfL,List.append_nil,List.nil_append,true_or,or_true,false_or,or_false,false_and,and_false,not_true_eq_false,not_false_eq_true,ne_eq,unL,trim_nil,LV.pures,LV.pure,Nat.reduceDiv,Int.reduceEq,Int.reduceLT,Int.reduceLE,Int.natCast_zero,allocL,List.getElem?_cons_zero,List.getElem?_cons_succ,storeL,spliceL,List.take_zero,List.take_succ_cons,List.drop_zero,List.drop_succ_cons,List.drop_nil,List.take_nil,Nat.le_refl,Nat.reduceMul,List.set_cons_zero,List.set_cons_succ,LV.scalar,List.all_cons,List.all_nil,Nat.lt_add_one,Nat.zero_lt_one,Nat.reduceLT,Nat.lt_irrefl,fillL,foldIntL,kind_beq,pures_int,solids_int,plains_int,unders_int,scalars_int,show ((k : Int) < (n : Int)) by omega,hk6',Nat.zero_add,hm1,hbl,hat,hwr,hrm,hci,hvx,freeze_nil,ha,hws,ih]
theorem wg_snoc (j : Int) : ∀ (r o : List Int) (k : Nat) (a : Int × Int) (hr : k < r.length) (ho : k < o.length),wg j (r.take (k + 1)) (o.take (k + 1)) a = if o[k] = j then ((wg j (r.take k) (o.take k) a).1 + r[k],if r[k] > (wg j (r.take k) (o.take k) a).2 then r[k] else (wg j (r.take k) (o.take k) a).2) else wg j (r.take k) (o.take k) a
  | [],_,_,_,h,_ => by simp at h
  | _ :: _,[],_,_,_,h => by simp at h
  | x :: r,y :: o,0,a,_,_ => by
    simp only [List.take_succ_cons,List.take_zero,wg,List.getElem_cons_zero]
  | x :: r,y :: o,k + 1,a,h1,h2 => by
    have ih := wg_snoc j r o k (if y = j then (a.1 + x,if x > a.2 then x else a.2) else a) (by simpa using h1) (by simpa using h2)
    simp only [List.take_succ_cons,wg,List.getElem_cons_succ] at ih ⊢
    exact ih
def smL (h o : List Int) (r k : Nat) : List Int := (List.range r).map fun j : Nat => (wg (j : Int) (h.take k) (o.take k) (0,0)).1
def tpL (h o : List Int) (r k : Nat) : List Int := (List.range r).map fun j : Nat => (wg (j : Int) (h.take k) (o.take k) (0,0)).2
theorem smL_len (h o : List Int) (r k : Nat) : (smL h o r k).length = r := by simp [smL]
theorem tpL_len (h o : List Int) (r k : Nat) : (tpL h o r k).length = r := by simp [tpL]
theorem smL_at (h o : List Int) (r k j : Nat) (hj : j < r) : (smL h o r k)[j]? = some (wg (j : Int) (h.take k) (o.take k) (0,0)).1 := by simp [smL,hj]
theorem tpL_at (h o : List Int) (r k j : Nat) (hj : j < r) : (tpL h o r k)[j]? = some (wg (j : Int) (h.take k) (o.take k) (0,0)).2 := by simp [tpL,hj]
theorem smL_step (h o : List Int) (r k p : Nat) (hh : k < h.length) (ho : k < o.length) (hp : o[k] = (p : Int)) : smL h o r (k + 1) = (smL h o r k).set p ((wg (p : Int) (h.take k) (o.take k) (0,0)).1 + h[k]) := by
  apply List.ext_getElem?
  intro j
  by_cases hj : j < r
  · rw [smL_at _ _ _ _ _ hj,wg_snoc _ _ _ _ _ hh ho,hp,List.getElem?_set,smL_len]
    by_cases c : p = j
    · subst c; simp [hj]
    · rw [if_neg c,smL_at _ _ _ _ _ hj,if_neg (by omega)]
  · rw [List.getElem?_eq_none (by rw [smL_len]; omega),List.getElem?_eq_none (by rw [List.length_set,smL_len]; omega)]
theorem tpL_step (h o : List Int) (r k p : Nat) (hh : k < h.length) (ho : k < o.length) (hp : o[k] = (p : Int)) : tpL h o r (k + 1) = (tpL h o r k).set p (if h[k] > (wg (p : Int) (h.take k) (o.take k) (0,0)).2 then h[k] else (wg (p : Int) (h.take k) (o.take k) (0,0)).2) := by
  apply List.ext_getElem?
  intro j
  by_cases hj : j < r
  · rw [tpL_at _ _ _ _ _ hj,wg_snoc _ _ _ _ _ hh ho,hp,List.getElem?_set,tpL_len]
    by_cases c : p = j
    · subst c; simp [hj]
    · rw [if_neg c,tpL_at _ _ _ _ _ hj,if_neg (by omega)]
  · rw [List.getElem?_eq_none (by rw [tpL_len]; omega),List.getElem?_eq_none (by rw [List.length_set,tpL_len]; omega)]
theorem take_ok {l : List Int} (h : Ok20 l) (k : Nat) : Ok20 (l.take k) := fun x hx => h x (List.mem_of_mem_take hx)
theorem sm_bd {h : List Int} (H : Ok20 h) (h6 : h.length ≤ 6) (o : List Int) (j : Int) (k : Nat) : 0 ≤ (wg j (h.take k) (o.take k) (0,0)).1 ∧ (wg j (h.take k) (o.take k) (0,0)).1 ≤ 120 ∧ 0 ≤ (wg j (h.take k) (o.take k) (0,0)).2 ∧ (wg j (h.take k) (o.take k) (0,0)).2 ≤ 20 := by
  have h1 := ws_bound j (h.take k) (o.take k) 0 (take_ok H k) (by omega)
  have h2 := wg_bound j (h.take k) (o.take k) (0,0) (take_ok H k) ⟨by simp,by simp⟩
  have h3 : (wg j (h.take k) (o.take k) (0,0)).1 = ws j (h.take k) (o.take k) 0 := wg_ws j (h.take k) (o.take k) (0,0)
  have h4 : (h.take k).length ≤ 6 := by rw [List.length_take]; omega
  omega
abbrev SLz (q r : Nat) : LV := .sl q 0 r r 0 1 r
theorem alike_L2 (h o : List Int) (H : Ok20 h) (h6 : h.length ≤ 6) (r : Nat) (hr : 0 < r ∧ r ≤ 4) (ho : o.length = h.length) (hor : ∀ x ∈ o,0 ≤ x ∧ x < (r : Int)) (b bl q : Nat) (hbq : b < q) (hlq : o ≠ [] → bl < q) (C : List LV) (hC : C.length = r) (hC0 : C[0]? = some (RL h)) (d : Nat) : ∀ (k : Nat) (M : LMem),k + d = h.length → M.length = q + 2 → M[b]? = some ⟨C,true⟩ → (o ≠ [] → M[bl]? = some ⟨ints o,true⟩) → M[q]? = some ⟨ints (smL h o r k),true⟩ → M[q + 1]? = some ⟨ints (tpL h o r k),true⟩ →
    exF LP law07_ShareAlike.L2 [(5,SLv b r),(7,GV bl o),(9,SLz q r),(10,SLz (q + 1) r),(57,GV bl o),(58,.int .i64 (h.length : Int)),(59,.int .i64 (k : Int))] M =
      some (.exit 4,[(5,SLv b r),(7,GV bl o),(9,SLz q r),(10,SLz (q + 1) r)],(M.set q ⟨ints (smL h o r h.length),true⟩).set (q + 1) ⟨ints (tpL h o r h.length),true⟩) := by
  induction d with
  | zero =>
    intro k M hk hML hMb hMl hMq hMt
    obtain rfl : k = h.length := by omega
    rw [law07_ShareAlike.L2_eq,set_same' hMq,set_same' hMt]
    generalize GV bl o = gv at *
    simp only [law07_ShareAlike.B2,beqT,beqF,exF_seq,exF_region,exF_block,exF_cond,exF_ret,exF_exit,exF_skip,runL,wantL,stepL,evL,evC,LEnv.at,putL,loadFine,loadL,cellsAt,Trk.putNew,Trk.up,Trk.touch,Trk.gives,Trk.calm,Trk.hit,opdsOf,Trk.fresh,LEnv.keep,LEnv.ofFrom,List.map_cons,List.map_nil,nbeq,nble,nblt,ofAV,ofAVs,lenL,bin_add,bin_sub,bin_mul,bin_eql,bin_neq,bin_lss,bin_leq,bin_gtr,bin_geq,natL_nat,natL_zero,natL_one,natL_two,Nat.zero_mul,List.any_cons,List.any_nil,Bool.or_false,Bool.false_or,Bool.true_or,Bool.or_true,Bool.and_true,Bool.true_and,Bool.and_false,Bool.false_and,Bool.not_true,Bool.not_false,Nat.reduceBEq,Nat.reduceEqDiff,decide_true,decide_false,cond_true,cond_false,List.filter_nil,List.filter_cons,Nat.reduceAdd,Nat.reduceLeDiff,reduceCtorEq,List.length_nil,List.length_cons,Nat.mul_one,if_true,if_false,Bool.false_eq_true,eq_self,and_true,true_and,retL,resultsL,resAllL,resOfL,List.append_nil,List.nil_append,List.cons_append,true_or,or_true,false_or,or_false,false_and,and_false,not_true_eq_false,not_false_eq_true,ne_eq,unL,trim_nil,views_pures,LV.pures,LV.pure,freeze,Nat.reduceDiv,Int.reduceEq,Int.reduceLT,Int.reduceLE,Int.natCast_zero,LV.cells,allocL,List.getElem?_cons_zero,List.getElem?_cons_succ,storeL,spliceL,List.take_zero,List.take_succ_cons,List.drop_zero,List.drop_succ_cons,List.drop_nil,List.take_nil,Nat.le_refl,Nat.reduceMul,List.set_cons_zero,List.set_cons_succ,LV.scalar,List.all_cons,List.all_nil,Nat.lt_add_one,Nat.zero_lt_one,Nat.reduceLT,Nat.lt_irrefl,fillL,List.length_append,foldIntL,kind_beq,pures_int,solids_int,plains_int,unders_int,scalars_int,Int.lt_irrefl]
  | succ d ih =>
    intro k M hk hML hMb hMl hMq hMt
    have hkh : k < h.length := by omega
    have hko : k < o.length := by omega
    have hone : o ≠ [] := fun e => by rw [e] at hko; simp at hko
    have hMl := hMl hone
    have hlq := hlq hone
    have hki : (k : Int) < (h.length : Int) := by omega
    have hws := wrap_succ (show k + 1 < 9223372036854775808 by omega)
    obtain ⟨p,hp⟩ := Int.eq_ofNat_of_zero_le (hor _ (List.getElem_mem hko)).1
    have hpr : p < r := by have := (hor _ (List.getElem_mem hko)).2; omega
    have hl2 := (List.getElem?_eq_some_iff.1 hMq).1
    have hl3 := (List.getElem?_eq_some_iff.1 hMt).1
    have ao : (ints o)[k]? = some (.int .i64 (p : Int)) := by rw [List.getElem?_map,List.getElem?_eq_getElem hko,hp]; rfl
    have ah : (ints h)[k]? = some (.int .i64 h[k]) := by rw [List.getElem?_map,List.getElem?_eq_getElem hkh]; rfl
    have asx : (ints (smL h o r k))[p]? = some (.int .i64 (wg (p : Int) (h.take k) (o.take k) (0,0)).1) := by rw [List.getElem?_map,smL_at _ _ _ _ _ hpr]; rfl
    have at' : (ints (tpL h o r k))[p]? = some (.int .i64 (wg (p : Int) (h.take k) (o.take k) (0,0)).2) := by rw [List.getElem?_map,tpL_at _ _ _ _ _ hpr]; rfl
    have hs := smL_step h o r k p hkh hko hp
    have ht := tpL_step h o r k p hkh hko hp
    have bd := sm_bd H h6 o (p : Int) k
    have bk := H _ (List.getElem_mem hkh)
    have hw1 : IntKind.i64.wrap ((wg (p : Int) (h.take k) (o.take k) (0,0)).1 + h[k]) = (wg (p : Int) (h.take k) (o.take k) (0,0)).1 + h[k] := wrap_in (by omega)
    have sets : (ints (smL h o r k)).take p ++ [LV.int .i64 ((wg (p : Int) (h.take k) (o.take k) (0,0)).1 + h[k])] ++ (ints (smL h o r k)).drop (p + 1) = ints ((smL h o r k).set p ((wg (p : Int) (h.take k) (o.take k) (0,0)).1 + h[k])) := set_int .i64 (smL h o r k) p ((wg (p : Int) (h.take k) (o.take k) (0,0)).1 + h[k]) (by rw [smL_len]; exact hpr)
    have sett : (ints (tpL h o r k)).take p ++ [LV.int .i64 (if h[k] > (wg (p : Int) (h.take k) (o.take k) (0,0)).2 then h[k] else (wg (p : Int) (h.take k) (o.take k) (0,0)).2)] ++ (ints (tpL h o r k)).drop (p + 1) = ints ((tpL h o r k).set p (if h[k] > (wg (p : Int) (h.take k) (o.take k) (0,0)).2 then h[k] else (wg (p : Int) (h.take k) (o.take k) (0,0)).2)) := set_int .i64 (tpL h o r k) p _ (by rw [tpL_len]; exact hpr)
    rw [← hs] at sets
    rw [← ht] at sett
    have ih := ih (k + 1) ((M.set q ⟨ints (smL h o r (k + 1)),true⟩).set (q + 1) ⟨ints (tpL h o r (k + 1)),true⟩) (by omega) (by simp [hML]) (by rw [List.getElem?_set_ne (by omega),List.getElem?_set_ne (by omega)]; exact hMb) (fun _ => by rw [List.getElem?_set_ne (by omega),List.getElem?_set_ne (by omega)]; exact hMl) (by rw [List.getElem?_set_ne (by omega),List.getElem?_set_self hl2]) (by rw [List.getElem?_set_self (by simpa using hl3)])
    have hcomm : ((((M.set q ⟨ints (smL h o r (k + 1)),true⟩).set (q + 1) ⟨ints (tpL h o r (k + 1)),true⟩).set q ⟨ints (smL h o r h.length),true⟩).set (q + 1) ⟨ints (tpL h o r h.length),true⟩ : LMem) = (M.set q ⟨ints (smL h o r h.length),true⟩).set (q + 1) ⟨ints (tpL h o r h.length),true⟩ := by
      rw [List.set_comm _ _ (show q + 1 ≠ q by omega),List.set_set,List.set_set]
    rw [hcomm] at ih
    rw [← ih,law07_ShareAlike.L2_eq]
    have ls : (ints (smL h o r k)).length = r := by rw [List.length_map,smL_len]
    have lt : (ints (tpL h o r k)).length = r := by rw [List.length_map,tpL_len]
    have lo : (ints o).length = h.length := by rw [List.length_map,ho]
    have lh : (ints h).length = h.length := by rw [List.length_map]
    have hMb1 : (M.set q ⟨ints (smL h o r (k + 1)),true⟩)[b]? = some ⟨C,true⟩ := by rw [List.getElem?_set_ne (by omega)]; exact hMb
    have hMt1 : (M.set q ⟨ints (smL h o r (k + 1)),true⟩)[q + 1]? = some ⟨ints (tpL h o r k),true⟩ := by rw [List.getElem?_set_ne (by omega)]; exact hMt
    have hgv : GV bl o = .sl bl 0 h.length h.length 1 1 h.length := by rw [GV,if_neg hone,ho]
    have hRL : RL h = .lst false false 1 h.length (ints h) := by
      have : ¬ h = [] := fun e => by rw [e] at hkh; simp at hkh
      simp [RL,this]
    rw [hgv]
    rw [hRL] at hC0
    have n1 : ¬ M.length ≤ bl := by omega
    have n2 : ¬ M.length ≤ b := by omega
    have n3 : ¬ M.length ≤ q := by omega
    have n4 : ¬ M.length ≤ q + 1 := by omega
    have p1 : p + 1 ≤ r := by omega
    have k1 : k + 1 ≤ h.length := by omega
    have r1 : 0 + 1 ≤ r := by omega
    have hif : ∀ x y : Int,(if y < x then x else y) = if x > y then x else y := fun _ _ => rfl
    generalize (wg (p : Int) (h.take k) (o.take k) (0,0)).1 = s1 at *
    generalize (wg (p : Int) (h.take k) (o.take k) (0,0)).2 = t1 at *
    generalize ints (smL h o r k) = S0 at *
    generalize ints (smL h o r (k + 1)) = S1 at *
    generalize ints (tpL h o r k) = T0 at *
    generalize ints (tpL h o r (k + 1)) = T1 at *
    generalize ints o = OI at *
    generalize ints h = HI at *
    simp only [law07_ShareAlike.B2,law07_ShareAlike.B2.R0,law07_ShareAlike.B2.R1,beqT,beqF,exF_seq,exF_region,exF_block,exF_cond,exF_ret,exF_exit,exF_skip,runL,wantL,stepL,evL,evC,LEnv.at,putL,loadFine,loadL,cellsAt,Trk.putNew,Trk.up,Trk.touch,Trk.gives,Trk.calm,Trk.hit,opdsOf,Trk.fresh,LEnv.keep,LEnv.ofFrom,List.map_cons,List.map_nil,nbeq,nble,nblt,ofAV,ofAVs,lenL,bin_add,bin_sub,bin_mul,bin_eql,bin_neq,bin_lss,bin_leq,bin_gtr,bin_geq,natL_nat,natL_zero,natL_one,natL_two,Nat.zero_mul,List.any_cons,List.any_nil,Bool.or_false,Bool.false_or,Bool.true_or,Bool.or_true,Bool.and_true,Bool.true_and,Bool.and_false,Bool.false_and,Bool.not_true,Bool.not_false,Nat.reduceBEq,Nat.reduceEqDiff,decide_true,decide_false,cond_true,cond_false,List.filter_nil,List.filter_cons,Nat.reduceAdd,Nat.reduceLeDiff,reduceCtorEq,List.length_nil,List.length_cons,Nat.mul_one,if_true,if_false,Bool.false_eq_true,eq_self,and_true,true_and,retL,resultsL,resAllL,resOfL,List.append_nil,List.nil_append,List.cons_append,true_or,or_true,false_or,or_false,false_and,and_false,not_true_eq_false,not_false_eq_true,ne_eq,unL,trim_nil,views_pures,LV.pures,LV.pure,freeze,Nat.reduceDiv,Int.reduceEq,Int.reduceLT,Int.reduceLE,Int.natCast_zero,LV.cells,allocL,List.getElem?_cons_zero,List.getElem?_cons_succ,storeL,spliceL,List.take_zero,List.take_succ_cons,List.drop_zero,List.drop_succ_cons,List.drop_nil,List.take_nil,Nat.le_refl,Nat.reduceMul,List.set_cons_zero,List.set_cons_succ,LV.scalar,List.all_cons,List.all_nil,Nat.lt_add_one,Nat.zero_lt_one,Nat.reduceLT,Nat.lt_irrefl,fillL,List.length_append,foldIntL,kind_beq,pures_int,solids_int,plains_int,unders_int,scalars_int,hki,hkh,Nat.zero_add,hMl,lo,ao,k1,hpr,hMq,ls,asx,hMb,hC,hr.1,hC0,lh,ah,n1,n2,n3,n4,hw1,sets,hMb1,hMt1,lt,at',p1,hws,List.length_set,sett,hif]
end Go.Am.Share
