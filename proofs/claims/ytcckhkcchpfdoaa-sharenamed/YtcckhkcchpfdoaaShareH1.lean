import Derived.Test.YtcckhkcchpfdoaaShareD1
set_option linter.unusedVariables false
set_option linter.unusedSimpArgs false
set_option maxRecDepth 10000
set_option maxHeartbeats 400000
namespace Go.Am.Share
open Go.Am.G
def rowR (l : List Int) : Row := ⟨decide (l = []),decide (l = []),bif decide (l = []) then 0 else 1,l⟩
theorem rowL_20 (q : List Nat) (M n : Nat) (hM : M ≤ 20) : Ok20 (rowL q M n) := fun x hx => by
  obtain ⟨j,_,rfl⟩ := List.mem_map.1 hx
  have := Nat.mod_lt (q.getD j 0) (show 0 < M + 1 by omega)
  omega
def isSl (v : LV) : Prop := match v with | .sl _ _ _ _ _ _ _ => True | _ => False
theorem app_sl {m m' : LMem} {bytes : Nat} {s v' a : LV} (h : appendL m 1 bytes s (.lst false true 1 1 [a]) = some (v',m')) : isSl v' := by
  unfold appendL at h
  split at h
  · rename_i olds n news k h1 h2
    have hk : k = 1 := by
      simp [contents,nbeq] at h2; exact h2.2.symm
    subst hk
    simp only [show Nat.beq 1 0 = false from rfl,cond_false] at h
    cases c : (Nat.ble ((n + 1) * bytes) roomMost && Nat.ble (n + 1) roomMost && news.all LV.scalar)
    · rw [c,cond_false] at h; cases h
    · rw [c,cond_true] at h
      split at h
      · rename_i nl ex z q cs
        cases c2 : (nl || ex)
        · rw [c2,cond_false] at h; cases h
        · rw [c2,cond_true] at h
          simp only [newSl,Option.some.injEq,Prod.mk.injEq] at h
          rw [← h.1]; trivial
      · split at h
        · cases h
        · simp only [Bool.cond_eq_ite] at h
          split at h
          · split at h
            · simp only [Option.some.injEq,Prod.mk.injEq] at h
              rw [← h.1]; trivial
            · cases h
          · split at h
            · simp only [newSl,Option.some.injEq,Prod.mk.injEq] at h
              rw [← h.1]; trivial
            · split at h
              · simp only [Option.some.injEq,Prod.mk.injEq] at h
                rw [← h.1]; trivial
              · cases h
      · cases h
  · cases h
theorem made_outer_sl (w : List Nat) (hw : w.length = 26) (hb : ∀ x ∈ w,x < 256) (M : Nat) (hM : M ≤ 20) (n : Nat) (hn : n ≤ 6) (r : Nat) (hr : r ≤ 4) (d : Nat) : ∀ (i : Nat) (P : LMem) (vo : LV),i + d = r → P[0]? = some ⟨bys w,true⟩ → Lst P vo 1 i ((rowsM w M n i).map RL) → ¬ isBlk vo 0 → (0 < i → isSl vo) →
    ∃ m' vo',exF LP law07_Heap_made.L1 [(3,.int .i64 (M : Int)),(9,vo),(10,.int .i64 (n : Int)),(29,.sl 0 2 r 4 0 6 26),(30,.int .i64 (r : Int)),(31,.int .i64 (i : Int))] P =
      some (.exit 0,[(9,vo')],m') ∧ Lst m' vo' 1 r ((rowsM w M n r).map RL) ∧ (0 < r → isSl vo') := by
  induction d with
  | zero =>
    intro i P vo hi h0 H hz hsl
    obtain rfl : i = r := by omega
    refine ⟨P,vo,?_,H,hsl⟩
    rw [law07_Heap_made.L1_eq]
    simp only [law07_Heap_made.B1,exF_seq,exF_region,exF_cond,exF_exit,runL,wantL,stepL,evL,LEnv.at,putL,loadFine,LEnv.keep,List.map_cons,List.map_nil,nbeq,bin_lss,Nat.reduceEqDiff,decide_true,decide_false,cond_true,cond_false,eq_self,Int.lt_irrefl]
  | succ d ih =>
    intro i P vo hi h0 H hz hsl
    have hir : i < r := by omega
    have h6 := cut6_len hw (show i < 4 by omega)
    have hbl : (bys w).length = 26 := by simp [hw]
    have hcc := cut_cells (w := w) i
    have hlen6 : (bys (cut6 w i)).length = 6 := by simp [h6]
    have hin := made_inner M hM (cut6 w i) h6 (cut6_lt hb i) n hn vo (.sl 0 2 r 4 0 6 26) (.int .i64 (r : Int)) (.int .i64 (i : Int)) (P ++ [CB w i]) P.length true (by simp) n 0 (by omega)
    have e0 : rowL (cut6 w i) M 0 = [] := rfl
    rw [e0,GV_nil,GM_nil,List.append_nil] at hin
    simp only [Int.natCast_zero] at hin
    -- the row is shown,and goes to the end of the list
    obtain ⟨ids,hv,hids⟩ : ∃ ids,views ((P ++ [CB w i]) ++ GM (rowL (cut6 w i) M n)) [GV (P ++ [CB w i]).length (rowL (cut6 w i) M n)] = some ([RL (rowL (cut6 w i) M n)],ids) ∧ ∀ j ∈ ids,j = (P ++ [CB w i]).length := by
      by_cases hl : rowL (cut6 w i) M n = []
      · rw [hl]; exact ⟨[],views_pures _ _ (by simp [LV.pures,LV.pure,GV]),by simp⟩
      · refine ⟨_,views_one 92 _ _ _ _ (fun k => view_grow k (P ++ [CB w i]) (rowL (cut6 w i) M n)) (by simp [LV.pures,LV.pure,GV,hl]),?_⟩
        intro j hj
        rw [if_neg hl] at hj
        simpa using hj
    generalize hrow : rowL (cut6 w i) M n = row at *
    have hfz : ∀ j,j ≤ P.length → (freeze ids ((P ++ [CB w i]) ++ GM row))[j]? = (P ++ [CB w i])[j]? := fun j hj => by
      rw [Go.Am.G.freeze_get j ids _ (fun c => by have := hids j c; simp at this; omega),List.getElem?_append_left (by simp; omega)]
    have hP : ∀ j,j < P.length → (freeze ids ((P ++ [CB w i]) ++ GM row))[j]? = P[j]? := fun j hj => by
      rw [hfz j (by omega),List.getElem?_append_left hj]
    have H2 : Lst (freeze ids ((P ++ [CB w i]) ++ GM row)) vo 1 i ((rowsM w M n i).map RL) := H.mono fun j hj => hP j (H.lt j hj)
    have hlenF : P.length < (freeze ids ((P ++ [CB w i]) ++ GM row)).length := by rw [Go.Am.G.freeze_length]; simp
    obtain ⟨v',m',a1,a2,a3,a4,a5⟩ := H2.append (x := .lst false true 1 1 [RL row]) (k := 1) (bytes := 24) (news := [RL row]) rfl rfl (by omega) (by omega) rfl
    have e2 : (rowsM w M n i).map RL ++ [RL row] = (rowsM w M n (i + 1)).map RL := by rw [rowsM_succ,hrow]; simp
    rw [e2] at a2
    have h0l := (List.getElem?_eq_some_iff.1 h0).1
    obtain ⟨m2,vo2,e,H3⟩ := ih (i + 1) m' v' (by omega) (by rw [a3 0 (by omega) hz,hP 0 h0l]; exact h0) a2 (fun c => by rcases a5 0 c with c | c; exact hz c; omega) (fun _ => app_sl a1)
    refine ⟨m2,vo2,?_,H3⟩
    rw [law07_Heap_made.L1_eq,← e]
    have hws := wrap_succ (show i + 1 < 9223372036854775808 by omega)
    have hcl : (GV (P ++ [CB w i]).length row).cells = some [GV (P ++ [CB w i]).length row] := by unfold GV; split <;> rfl
    have hPl : (P ++ [CB w i])[P.length]? = some ⟨bys (cut6 w i),true⟩ := by simp
    have hidx : 2 + i * 6 + 6 ≤ 26 := by omega
    have hz1 : ∀ x : LBlk,(P ++ [x])[P.length]? = some x := fun x => by simp
    have hz2 : ∀ x y : LBlk,(P ++ [x]).set P.length y = P ++ [y] := fun x y => by simp
    have hsc := bys_scalar (cut6 w i)
    have hca : ∀ cs,(LV.agg cs).cells = some cs := fun _ => rfl
    have hdr : List.drop 6 [LV.int .u8 0,LV.int .u8 0,LV.int .u8 0,LV.int .u8 0,LV.int .u8 0,LV.int .u8 0] = [] := rfl
    have hof : ofAVs [.int .u8 0,.int .u8 0,.int .u8 0,.int .u8 0,.int .u8 0,.int .u8 0] = [LV.int .u8 0,LV.int .u8 0,LV.int .u8 0,LV.int .u8 0,LV.int .u8 0,LV.int .u8 0] := rfl
    have hn6 : n ≤ 6 := hn
    simp (maxSteps := 1000000) only [law07_Heap_made.B1,sliceArrL,optNatL,Option.map_none,Option.map_some,nble,Nat.zero_le,exF_seq,exF_region,exF_block,exF_cond,exF_skip,runL,wantL,stepL,evL,evC,LEnv.at,putL,loadFine,loadL,cellsAt,Trk.putNew,Trk.up,Trk.touch,Trk.gives,Trk.calm,Trk.hit,opdsOf,Trk.fresh,LEnv.keep,List.map_cons,List.map_nil,nbeq,nble,nblt,ofAV,ofAVs,lenL,bin_add,bin_lss,natL_nat,List.any_cons,List.any_nil,Bool.or_false,Bool.false_or,Bool.true_or,Bool.and_true,Nat.reduceEqDiff,decide_true,decide_false,cond_true,cond_false,List.filter_nil,Nat.reduceAdd,reduceCtorEq,List.length_nil,List.length_cons,Nat.mul_one,eq_self,List.append_nil,List.nil_append,Nat.reduceDiv,allocL,storeL,spliceL,List.take_zero,List.take_succ_cons,List.drop_succ_cons,List.drop_nil,List.take_nil,Nat.le_refl,fillL,show ((i : Int) < (r : Int)) by omega,hir,h0,hbl,hcc,hlen6,hidx,hca,hz1,hz2,hsc,hdr,Nat.zero_add,Nat.sub_zero,hn6,hin,hcl,hv,a1,hws]
theorem shifts_rl (n : Nat) (R : List (List Int)) : LV.shifts n (R.map RL) = R.map RL := by
  induction R with
  | nil => rfl
  | cons a r ih => simp only [List.map_cons,LV.shifts,ih]; rfl
theorem made_o (w : List Nat) (hw : w.length = 26) (hb : ∀ x ∈ w,x < 256) (F T M : Nat) (hF : 1 ≤ F ∧ F ≤ 4) (hT : T ≤ 6) (hM : M ≤ 20) (m : LMem) :
    ∃ (b : Nat) (m' : LMem),clF LP n_law07_Heap_made [.agg (bys w),.int .i64 (F : Int),.int .i64 (T : Int),.int .i64 (M : Int)] m = some (.O,.sl b 0 (1 + w.getD 0 0 % F) (1 + w.getD 0 0 % F) 1 1 (1 + w.getD 0 0 % F),m') ∧ m'[b]? = some ⟨(rowsM w M (w.getD 1 0 % (T + 1)) (1 + w.getD 0 0 % F)).map RL,true⟩ ∧ m.length ≤ b ∧ ∀ i,i < m.length → m'[i]? = m[i]? := by
  have h0 := getD_lt hb 0
  have h1 := getD_lt hb 1
  have hr := Nat.mod_lt (w.getD 0 0) (show 0 < F by omega)
  have hn := Nat.mod_lt (w.getD 1 0) (show 0 < T + 1 by omega)
  have a0 := bys_at (show 0 < w.length by omega)
  have a1 := bys_at (show 1 < w.length by omega)
  have hbl : (bys w).length = 26 := by simp [hw]
  have w0 : IntKind.i64.wrap ((w.getD 0 0 : Nat) : Int) = ((w.getD 0 0 : Nat) : Int) := wrap_in (by omega)
  have w1 : IntKind.i64.wrap ((w.getD 1 0 : Nat) : Int) = ((w.getD 1 0 : Nat) : Int) := wrap_in (by omega)
  have wT : IntKind.i64.wrap ((T : Int) + 1) = ((T + 1 : Nat) : Int) := by rw [wrap_in (by omega)]; simp
  have r0 := rem_nat (w.getD 0 0) F (by omega)
  have r1 := rem_nat (w.getD 1 0) (T + 1) (by omega)
  have wr : IntKind.i64.wrap (1 + ((w.getD 0 0 % F : Nat) : Int)) = ((1 + w.getD 0 0 % F : Nat) : Int) := by rw [wrap_in (by omega)]; simp
  obtain ⟨m',vo,e,H,hsl⟩ := made_outer_sl w hw hb M hM (w.getD 1 0 % (T + 1)) (by omega) (1 + w.getD 0 0 % F) (by omega) (1 + w.getD 0 0 % F) 0 [⟨bys w,true⟩] (.lst true true 0 0 []) (by omega) rfl (Lst.nil _ 1) (fun h => h) (fun h => absurd h (by omega))
  have hsl := hsl (by omega)
  obtain ⟨b,rfl,hbm,hbl'⟩ : ∃ b,vo = .sl b 0 (1 + w.getD 0 0 % F) (1 + w.getD 0 0 % F) 1 1 (1 + w.getD 0 0 % F) ∧ m'[b]? = some ⟨(rowsM w M (w.getD 1 0 % (T + 1)) (1 + w.getD 0 0 % F)).map RL,true⟩ ∧ True := by
    rcases H with ⟨nl,ex,z,rfl,_⟩ | ⟨b,rfl,h1,_⟩
    · exact absurd hsl (fun h => h)
    · exact ⟨b,by rw [Nat.mul_one],h1,trivial⟩
  have hpure : LV.pures [LV.agg (bys w),.int .i64 (F : Int),.int .i64 (T : Int),.int .i64 (M : Int)] = true := by simp only [LV.pures,LV.pure,pures_int,Bool.and_true]
  have hle4 : 1 + w.getD 0 0 % F ≤ 4 := by omega
  have hrun : retL law07_Heap_made.results (exF LP law07_Heap_made.body (LEnv.ofFrom 0 [LV.agg (bys w),.int .i64 (F : Int),.int .i64 (T : Int),.int .i64 (M : Int)]) []) = some (.sl b 0 (1 + w.getD 0 0 % F) (1 + w.getD 0 0 % F) 1 1 (1 + w.getD 0 0 % F),m') := by
    clear hbm
    simp only [Int.natCast_zero] at e
    generalize 1 + w.getD 0 0 % F = r at *
    generalize w.getD 1 0 % (T + 1) = n at *
    generalize w.getD 0 0 % F = rr at *
    generalize w.getD 0 0 = x0 at *
    generalize w.getD 1 0 = x1 at *
    generalize bys w = W at *
    simp only [law07_Heap_made,law07_Heap_made.B,sliceArrL,optNatL,Option.map_none,Option.map_some,nble,Nat.zero_le,Nat.add_zero,Nat.sub_zero,exF_seq,exF_region,exF_block,exF_ret,runL,wantL,stepL,evL,evC,LEnv.at,putL,loadFine,loadL,cellsAt,Trk.putNew,Trk.up,Trk.touch,Trk.gives,Trk.calm,Trk.hit,opdsOf,Trk.fresh,LEnv.keep,LEnv.ofFrom,List.map_cons,List.map_nil,nbeq,nble,lenL,bin_add,natL_nat,Nat.zero_mul,List.any_cons,List.any_nil,Bool.or_false,Bool.or_true,Bool.and_true,Bool.false_and,Bool.not_true,Bool.not_false,Nat.reduceEqDiff,decide_true,decide_false,cond_true,cond_false,List.filter_nil,Nat.reduceAdd,Nat.reduceLeDiff,reduceCtorEq,List.length_nil,List.length_cons,eq_self,retL,resultsL,resAllL,resOfL,List.nil_append,LV.cells,allocL,List.getElem?_cons_zero,List.drop_zero,hbl,a0,a1,w0,w1,wT,r0,r1,wr,hle4,e]
  have hcall := call_O lp_law07_Heap_made rfl hpure hrun m
  refine ⟨b + m.length,_,hcall,?_,by omega,fun i hi => by rw [List.getElem?_append_left hi]⟩
  rw [List.getElem?_append_right (by omega),show b + m.length - m.length = b by omega,List.getElem?_map,hbm]
  simp only [Option.map_some,shifts_rl]
theorem call_sh {C : LProg} {f : Nat} {lf : LFunc} (hC : C f = some lf) (hm : lf.mode = .P) {args vs : List LV} {ids : List Nat} {m : LMem} (hv : views m args = some (vs,ids)) (hp : LV.pures vs = true) {v : LV} (hc : clF C f vs [] = some (.P,v,[])) : clF C f args m = some (.P,v,m) ∨ clF C f args m = some (.P,v,freeze ids m) := by
  rw [clF_eq,hC] at hc ⊢
  simp only [callMode,hm,views_pures [] vs hp,hv] at hc ⊢
  split at hc
  · rename_i v1 m1 hr
    split at hc
    · rename_i v2 ids1 hv2
      simp only [Option.some.injEq,Prod.mk.injEq] at hc
      obtain ⟨_,rfl,_⟩ := hc
      cases (ids.isEmpty || (v2.plain || newIds v1 m1 ids1))
      · exact .inr rfl
      · exact .inl rfl
    · cases hc
  · cases hc
theorem view_at {m : LMem} {b n : Nat} {l : List Int} {o : Bool} (hn : l.length = n) (h : m[b]? = some ⟨ints l,o⟩) (hne : l ≠ []) : ∀ k,view (k + 3) m (.sl b 0 n n 1 1 n) = some (IL false false 1 l,[b]) := fun k => by
  have := view_sl k m b 0 n n 1 l o h hn (by omega) n (Nat.le_refl _)
  rw [List.drop_zero,List.take_of_length_le (by omega)] at this
  rw [this]
  have : n ≠ 0 := fun c => hne (List.length_eq_zero_iff.1 (by omega))
  simp [nbeq]
def Hold (m : LMem) (v : LV) (l : List Int) : Prop :=
  (l = [] ∧ v = .lst true true 0 0 []) ∨ (l ≠ [] ∧ ∃ b o,v = .sl b 0 l.length l.length 1 1 l.length ∧ m[b]? = some ⟨ints l,o⟩)
theorem Hold.mono {m m' : LMem} {v : LV} {l : List Int} (H : Hold m v l) (h : ∀ i,isBlk v i → m'[i]? = m[i]?) : Hold m' v l := by
  rcases H with H | ⟨h1,b,o,h2,h3⟩
  · exact .inl H
  · exact .inr ⟨h1,b,o,h2,by rw [h b (by rw [h2]; rfl)]; exact h3⟩
theorem views_in (m : LMem) (a v v' : LV) (ids : List Nat) (r : List LV) (hv : ∀ k,view (k + 3) m v = some (v',ids)) (ha : a.pure = true) (hr : LV.pures r = true) (hnp : v.pure = false) (hl : r.length ≤ 4) : views m (a :: v :: r) = some (a :: v' :: r,ids) := by
  have hva : ∀ k,view (k + 3) m a = some (a,[]) := fun k => view_pure (k + 1) m a ha
  have hC : ∀ (r : List LV) k,LV.pures r = true → r.length + 4 ≤ k → viewC k m r = some (r,[]) := by
    intro r
    induction r with
    | nil =>
      intro k _ hk
      obtain ⟨k,rfl⟩ : ∃ q,k = q + 1 := ⟨k - 1,by omega⟩
      rw [viewC.eq_def]
    | cons x r ih =>
      intro k hp hk
      obtain ⟨k,rfl⟩ : ∃ q,k = q + 4 := ⟨k - 4,by omega⟩
      simp only [LV.pures,Bool.and_eq_true] at hp
      simp only [List.length_cons] at hk
      rw [viewC.eq_def]
      simp only [view_pure (k + 1) m x hp.1,ih (k + 3) hp.2 (by omega)]
      rfl
  have hp : LV.pures (a :: v :: r) = false := by simp only [LV.pures,hnp,Bool.false_and,Bool.and_false]
  unfold views
  rw [viewL.eq_def]
  simp only [hp,cond_false]
  rw [viewC.eq_def]
  simp only [hva 95]
  rw [viewC.eq_def]
  simp only [hv 94]
  rw [hC r 97 hr (by omega)]
  simp
theorem Hold.call {m : LMem} {v : LV} {l : List Int} (H : Hold m v l) {f : Nat} {lf : LFunc} (hC : LP f = some lf) (hmd : lf.mode = .P) {a : LV} (ha : a.pure = true) {r : List LV} (hr : LV.pures r = true) (hlr : r.length ≤ 4) {x : LV} (hc : ∀ (b c : Bool) (z : Nat),(l = [] ∨ z = 1) → (b = true → l = []) → ∀ m,clF LP f (a :: IL b c z l :: r) m = some (.P,x,m)) :
    ∃ m',clF LP f (a :: v :: r) m = some (.P,x,m') ∧ Hold m' v l ∧ (∀ i,¬ isBlk v i → m'[i]? = m[i]?) ∧ m'.length = m.length := by
  rcases H with ⟨h1,h2⟩ | ⟨h1,b,o,h2,h3⟩
  · subst h1
    subst h2
    exact ⟨m,hc true true 0 (.inl rfl) (fun _ => rfl) m,.inl ⟨rfl,rfl⟩,fun _ _ => rfl,rfl⟩
  · subst h2
    have hv := views_in m a _ _ _ r (view_at rfl h3 h1) ha hr (by simp [LV.pure]) hlr
    have hpv : LV.pures (a :: IL false false 1 l :: r) = true := by simp only [LV.pures,LV.pure,ha,hr,Bool.and_true]
    rcases call_sh hC hmd hv hpv (hc false false 1 (.inr rfl) (fun h => by cases h) []) with h | h
    · exact ⟨m,h,.inr ⟨h1,b,o,rfl,h3⟩,fun _ _ => rfl,rfl⟩
    · refine ⟨_,h,.inr ⟨h1,b,false,rfl,?_⟩,fun i hi => ?_,Go.Am.G.freeze_length _ _⟩
      · have hb := (List.getElem?_eq_some_iff.1 h3).1
        simp only [freeze,freeze1,h3]
        rw [List.getElem?_set_self hb]
      · exact Go.Am.G.freeze_get i [b] m (by simp; intro e; exact hi (by rw [e]; rfl))
theorem Hold.lt {m : LMem} {v : LV} {l : List Int} (H : Hold m v l) (i : Nat) (h : isBlk v i) : i < m.length := by
  rcases H with ⟨_,h2⟩ | ⟨_,b,o,h2,h3⟩
  · rw [h2] at h; cases h
  · rw [h2] at h; cases h; exact (List.getElem?_eq_some_iff.1 h3).1
end Go.Am.Share
set_option linter.unusedVariables false
set_option linter.unusedSimpArgs false
set_option maxRecDepth 10000
set_option maxHeartbeats 400000
namespace Go.Am.Share
open Go.Am.G
theorem set_same' {α : Type} {m : List α} {i : Nat} {b : α} (h : m[i]? = some b) : m.set i b = m := by
  apply List.ext_getElem?
  intro j
  by_cases c : i = j
  · subst c
    rw [List.getElem?_set_self (List.getElem?_eq_some_iff.1 h).1,h]
  · rw [List.getElem?_set_ne c]
abbrev SLv (b n : Nat) : LV := .sl b 0 n n 1 1 n
end Go.Am.Share
