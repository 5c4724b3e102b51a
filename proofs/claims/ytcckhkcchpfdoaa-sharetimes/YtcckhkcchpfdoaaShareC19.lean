import Derived.Test.YtcckhkcchpfdoaaShareC17
set_option linter.unusedVariables false
set_option linter.unusedSimpArgs false
set_option maxRecDepth 10000
namespace Go.Am.Share
def mapFrom (f : Int → Int) : Nat → Nat → List Int → List Int
  | 0,_,c => c
  | n + 1,k,c => mapFrom f n (k + 1) (c.set k (f (c.getD k 0)))
theorem mapFrom_eq (f : Int → Int) : ∀ (n k : Nat) (c : List Int),k + n = c.length → mapFrom f n k c = c.take k ++ (c.drop k).map f
  | 0,k,c,h => by
    rw [mapFrom,List.drop_eq_nil_of_le (by omega),List.take_of_length_le (by omega)]; simp
  | n + 1,k,c,h => by
    have hk : k < c.length := by omega
    rw [mapFrom,mapFrom_eq f n (k + 1) _ (by simp; omega),List.drop_eq_getElem_cons hk]
    have h1 : c.getD k 0 = c[k] := by simp [List.getD_eq_getElem?_getD,hk]
    rw [h1,List.set_eq_take_append_cons_drop,if_pos hk]
    have e1 : (c.take k ++ f c[k] :: c.drop (k + 1)).take (k + 1) = c.take k ++ [f c[k]] := by
      rw [List.take_append,List.length_take,show k + 1 - min k c.length = 1 by omega,List.take_take,show min (k + 1) k = k by omega]
      simp
    have e2 : (c.take k ++ f c[k] :: c.drop (k + 1)).drop (k + 1) = c.drop (k + 1) := by
      rw [List.drop_append,List.length_take,show k + 1 - min k c.length = 1 by omega,List.drop_eq_nil_of_le (by simp; omega)]
      simp
    rw [e1,e2,List.map_cons,List.append_assoc]
    rfl
abbrev RM (V : LV) (L : Nat) (c l : List Int) : LMem := [⟨[V,SLo 1 L],true⟩,⟨c.map (LV.int .i64),true⟩,⟨[V,SLo 1 L],true⟩,⟨[V,SLo 1 L],true⟩,⟨l.map (LV.int .i64),true⟩]
theorem take_drop_all (l : List Int) (p n : Nat) (h : p + n = l.length) : (l.drop p).take n = l.drop p := List.take_of_length_le (by simp; omega)
theorem nx_in {l : List Int} {p n : Nat} (h : p + n = l.length) (hn : 0 < n) {x : Int} (hx : x ∈ l.drop p) : nxI (l.drop p) x = l.getD (p + ((l.drop p).idxOf x + 1) % n) 0 := by
  have hl : (l.drop p).length = n := by simp; omega
  unfold nxI
  rw [if_pos hx,hl]
  simp only [List.getD_eq_getElem?_getD,List.getElem?_drop]
theorem give_loop (V : LV) (L : Nat) (hL : L ≤ 6) (l : List Int) (hll : l.length ≤ 100) (p n : Nat) (hp : p + n = l.length) (hn : 0 < n) (r : Nat) : ∀ (k : Nat) (c : List Int),k + r = L → c.length = L →
    exF LP share_division_turn.L1 [(1,.ptr 3 0 2),(5,.sl 4 p n n 1 1 l.length),(34,SLo 1 L),(35,.int .i64 (L : Int)),(36,.int .i64 (k : Int))] (RM V L c l) =
      some (.exit 2,[],RM V L (mapFrom (nxI (l.drop p)) r k c) l) := by
  induction r with
  | zero =>
    intro k c hk hc
    rw [share_division_turn.L1_eq]
    simp only [share_division_turn.B1,exF_seq,exF_region,exF_cond,exF_exit,runL,wantL,stepL,evL,LEnv.at,putL,loadFine,LEnv.keep,List.map_cons,List.map_nil,nbeq,bin_lss,Nat.reduceEqDiff,decide_true,decide_false,cond_true,cond_false,eq_self,show ¬ ((k : Int) < (L : Int)) by omega,mapFrom]
  | succ r ih =>
    intro k c hk hc
    have h2 : k < c.length := by omega
    have h3 : k < L := by omega
    have hx : c.getD k 0 = c[k] := by simp [List.getD_eq_getElem?_getD,h2]
    have hi := index_m (m := RM V L c l) (i := 4) (p := p) (n := n) (g := 1) (b := true) (cs := l) rfl rfl (by omega) (by omega) c[k]
    rw [take_drop_all l p n hp,idxI_eq] at hi
    rw [share_division_turn.L1_eq,mapFrom,hx]
    by_cases hm : c[k] ∈ l.drop p
    · rw [if_pos hm] at hi
      have hj : (l.drop p).idxOf c[k] < n := by
        have := idx_lt hm
        simp at this; omega
      have hnx := nx_in hp hn hm
      rw [hnx]
      generalize (l.drop p).idxOf c[k] = j at *
      have hq : (j + 1) % n < n := Nat.mod_lt _ hn
      have hq2 : p + (j + 1) % n < l.length := by omega
      have hv : l.getD (p + (j + 1) % n) 0 = l[p + (j + 1) % n] := by simp [List.getD_eq_getElem?_getD,hq2]
      have ih := ih (k + 1) (c.set k (l.getD (p + (j + 1) % n) 0)) (by omega) (by simpa using hc)
      rw [hv] at ih ⊢
      have hne : ((n : Nat) : Int) ≠ 0 := by omega
      have hge : (0 : Int) ≤ (j : Int) := by omega
      rw [Nat.zero_add] at hi
      simp only [share_division_turn.B1,exF_seq,exF_region,exF_block,exF_cond,exF_skip,runL,wantL,stepL,evL,evC,LEnv.at,putL,loadFine,loadL,cellsAt,Trk.putNew,Trk.up,Trk.touch,Trk.gives,Trk.calm,Trk.hit,opdsOf,Trk.fresh,LEnv.keep,List.map_cons,List.map_nil,nbeq,nble,nblt,ofAVs,lenL,bin_add,bin_lss,bin_geq,natL_nat,List.any_cons,List.any_nil,Bool.or_false,Bool.or_true,Bool.and_true,Bool.false_and,Bool.not_true,Bool.not_false,Nat.reduceEqDiff,decide_true,decide_false,cond_true,cond_false,List.filter_nil,Nat.reduceAdd,Nat.reduceLeDiff,reduceCtorEq,List.length_nil,List.length_cons,Nat.mul_one,eq_self,List.append_nil,List.nil_append,LV.cells,List.getElem?_cons_zero,List.getElem?_cons_succ,storeL,spliceL,List.take_succ_cons,List.drop_zero,List.drop_succ_cons,List.take_nil,Nat.le_refl,List.set_cons_zero,List.set_cons_succ,LV.scalar,List.all_cons,List.all_nil,show ((k : Int) < (L : Int)) by omega,h3,hc,int_at _ _ _ h2,Nat.zero_add,List.length_map,hi,hge,wrap_succ (show j + 1 < 9223372036854775808 by omega),bin_rem _ _ _ hne,tmod_nat,hq,int_at _ _ _ hq2,set_int _ _ _ _ h2,show k + 1 ≤ L by omega,wrap_succ (show k + 1 < 9223372036854775808 by omega),ih]
    · rw [if_neg hm] at hi
      have hnx : nxI (l.drop p) c[k] = c[k] := by unfold nxI; rw [if_neg hm]
      rw [hnx,List.set_getElem_self]
      have ih := ih (k + 1) c (by omega) hc
      simp only [share_division_turn.B1,exF_seq,exF_region,exF_block,exF_cond,exF_skip,runL,wantL,stepL,evL,evC,LEnv.at,putL,loadFine,loadL,cellsAt,Trk.putNew,Trk.up,Trk.touch,Trk.gives,Trk.calm,Trk.hit,opdsOf,Trk.fresh,LEnv.keep,List.map_cons,List.map_nil,nbeq,nble,nblt,ofAVs,bin_add,bin_lss,bin_geq,natL_nat,List.any_cons,List.any_nil,Bool.or_false,Bool.or_true,Bool.and_true,Bool.false_and,Bool.not_true,Bool.not_false,Nat.reduceEqDiff,decide_true,decide_false,cond_true,cond_false,List.filter_nil,Nat.reduceAdd,Nat.reduceLeDiff,List.length_nil,List.length_cons,Nat.mul_one,eq_self,List.append_nil,List.nil_append,Int.reduceLE,List.getElem?_cons_zero,List.getElem?_cons_succ,show ((k : Int) < (L : Int)) by omega,h3,hc,int_at _ _ _ h2,Nat.zero_add,List.length_map,hi,wrap_succ (show k + 1 < 9223372036854775808 by omega),ih]
theorem walk_facts {V : List (List Int)} {o : List Int} (hV : 0 < V.length) (h : calmI V o = -1) : WOk (fun x => enI V o x.toNat) V.length (wlk (fun x => enI V o x.toNat) (V.length + 1) [] 0).1 (wlk (fun x => enI V o x.toNat) (V.length + 1) [] 0).2 ∧ (wlk (fun x => enI V o x.toNat) (V.length + 1) [] 0).2 ∈ (wlk (fun x => enI V o x.toNat) (V.length + 1) [] 0).1 := by
  have H : WOk (fun x => enI V o x.toNat) V.length [] 0 := ⟨by simp,by simp,by omega,by simp,by simp⟩
  exact wlk_ok (en_rng h) (V.length + 1) [] 0 H (by simp)
theorem turn_c (nl ex : Bool) (sz : Nat) {rs : List Row} {o : List Int} (D : DOk rs o) (hc : calmI (vals rs) o = -1) :
    clF LP n_share_division_turn [.agg [VL nl ex sz rs,SLo 1 o.length]] (TM (VL nl ex sz rs) o) = some (.W,.tup [],TM (VL nl ex sz rs) (turnI (vals rs) o)) := by
  have h4 := D.le4
  have h6 := D.le6
  have hpos := D.pos
  obtain ⟨W,hw⟩ := walk_facts (by rw [vals_length]; exact hpos) hc
  have hloop := walk_loop nl ex sz D hc (rs.length + 1) [] 0 ⟨by simp,by simp,by omega,by simp,by simp⟩ (by simp)
  unfold turnI turnedBy ringI
  rw [vals_length] at W hw ⊢
  generalize wlk (fun x => enI (vals rs) o x.toNat) (rs.length + 1) [] 0 = lw at *
  obtain ⟨l,w⟩ := lw
  simp only at W hw hloop ⊢
  have hlen := nodup_le rs.length l W.nd W.rng
  have hne : l ≠ [] := by intro c; subst c; cases hw
  have hpl : 0 < l.length := List.length_pos_iff.2 hne
  have hlast := W.last hne
  have hlm : l.length - 1 < l.length := by omega
  have hlv : l.getD (l.length - 1) 0 = l[l.length - 1] := by simp [List.getD_eq_getElem?_getD,hlm]
  rw [hlv] at hlast
  have hl0 := W.rng _ (List.getElem_mem hlm)
  rw [ringOf_drop w l hw]
  have hidx := idx_lt hw
  have hring : (l.drop (l.idxOf w)) ≠ [] := by intro c; have := congrArg List.length c; simp at this; omega
  have he := enemy_m nl ex sz D (m := RM (VL nl ex sz rs) o.length o l) (i := 1) (b := true) rfl rfl hl0.1
  rw [← hlast] at he
  have hi := index_m (m := RM (VL nl ex sz rs) o.length o l) (i := 4) (p := 0) (n := l.length) (g := 1) (b := true) (cs := l) rfl rfl (by omega) (by omega) w
  rw [List.drop_zero,List.take_length,idxI_eq,if_pos hw,Nat.zero_add] at hi
  have hg := give_loop (VL nl ex sz rs) o.length h6 l (by omega) (l.idxOf w) (l.length - l.idxOf w) (by omega) (by omega) o.length 0 o (by omega) rfl
  rw [mapFrom_eq _ _ _ _ (by omega),List.take_zero,List.drop_zero,List.nil_append] at hg
  rw [GV_nil] at hloop
  have hloop : exF LP share_division_turn.L0 [(1,.ptr 3 0 2),(2,LNIL),(3,.int .i64 0)] [⟨[VL nl ex sz rs,SLo 1 o.length],true⟩,⟨o.map (LV.int .i64),true⟩,⟨[VL nl ex sz rs,SLo 1 o.length],true⟩,⟨[VL nl ex sz rs,SLo 1 o.length],true⟩] = some (.exit 0,[(1,.ptr 3 0 2),(2,GV 4 l)],RB (VL nl ex sz rs) o l) := hloop
  have e1 : GV 4 l = .sl 4 0 l.length l.length 1 1 l.length := by simp [GV,hne]
  have e2 : RB (VL nl ex sz rs) o l = RM (VL nl ex sz rs) o.length o l := by simp [RB,GM,hne]
  rw [e1,e2] at hloop
  have hw1 : IntKind.i64.wrap ((l.length : Int) - 1) = ((l.length - 1 : Nat) : Int) := by rw [wrap_in (by omega)]; omega
  have hsl : sliceL 1 (.sl 4 0 l.length l.length 1 1 l.length) (some (.int .i64 ((l.idxOf w : Nat) : Int))) none none = some (.sl 4 (l.idxOf w) (l.length - l.idxOf w) (l.length - l.idxOf w) 1 1 l.length) := by
    have hle : l.idxOf w ≤ l.length := by omega
    simp [sliceL,optNatL,natL_nat,nble,nbeq,hle]
  generalize l.idxOf w = p at *
  have hml : (o.map (nxI (l.drop p))).length = o.length := by simp
  generalize o.map (nxI (l.drop p)) = o2 at *
  simp only [TM,hml]
  rw [clF_eq,lp_share_division_turn]
  simp only [callMode,share_division_turn,Int.natCast_zero] at hg ⊢
  simp only [share_division_turn.B,exF_seq,exF_region,exF_block,runL,wantL,stepL,evL,evC,LEnv.at,putL,loadFine,loadL,cellsAt,Trk.putNew,Trk.up,Trk.touch,Trk.gives,Trk.calm,Trk.hit,opdsOf,Trk.fresh,LEnv.keep,LEnv.ofFrom,List.map_cons,List.map_nil,nbeq,nble,nblt,ofAVs,lenL,bin_sub,natL_nat,List.any_cons,List.any_nil,Bool.or_false,Bool.or_true,Bool.and_true,Bool.false_and,Bool.not_true,Bool.not_false,Nat.reduceEqDiff,decide_true,decide_false,cond_true,cond_false,List.filter_nil,Nat.reduceAdd,Nat.reduceLeDiff,reduceCtorEq,List.length_nil,List.length_cons,Nat.mul_one,eq_self,retL,resultsL,resAllL,List.append_nil,List.nil_append,List.cons_append,LV.cells,allocL,List.getElem?_cons_zero,List.getElem?_cons_succ,List.take_succ_cons,List.drop_zero,List.drop_succ_cons,List.take_nil,Nat.le_refl,RM,hloop,he,hi,hg,Option.map_some,Option.map_none,hsl,hlm,hw1,int_at _ _ _ hlm,Nat.zero_add,List.length_map]
  simp [trim,belowM,LV.unders,LV.under,unders_int,nblt]
end Go.Am.Share
set_option linter.unusedVariables false
set_option linter.unusedSimpArgs false
set_option maxRecDepth 10000
namespace Go.Am.Share
theorem DOk.of_len {rs : List Row} {o o' : List Int} (D : DOk rs o) (h : o'.length = o.length) : DOk rs o' :=
  ⟨D.pos,D.le4,fun i hi => by rw [h]; exact D.len i hi,D.ok,by rw [h]; exact D.le6⟩
theorem turnI_length (V : List (List Int)) (o : List Int) : (turnI V o).length = o.length := by simp [turnI,turnedBy]
theorem settle_length (V : List (List Int)) : ∀ (n : Nat) (o : List Int),(settle V n o).length = o.length
  | 0,o => rfl
  | n + 1,o => by
    rw [settle]
    split
    · rw [settle_length V n,turnI_length]
    · rfl
theorem ringsI_length (V : List (List Int)) : ∀ (n k : Nat) (o : List Int),(ringsI V n k o).length = o.length
  | 0,_,o => rfl
  | n + 1,k,o => by rw [ringsI,ringsI_length V n,List.length_set,settle_length]
theorem DOk.own {rs : List Row} {o : List Int} (D : DOk rs o) : 0 ≤ ownS (vals rs) o ∧ ownS (vals rs) o ≤ 480 := by
  have h6 := D.le6
  refine ownS_le ?_ ?_ (by rw [vals_length]; exact D.le4)
  · intro i hi
    rw [vals_length] at hi
    rw [vals_at rs i hi]; exact D.ok i hi
  · intro i hi
    rw [vals_length] at hi
    rw [vals_at rs i hi,← D.len i hi]; exact h6
theorem settle_loop (nl ex : Bool) (sz : Nat) {rs : List Row} (k L : Int) (n : Nat) : ∀ (o : List Int),DOk rs o → 480 - ownS (vals rs) o < n →
    exF LP share_Rings.L0 [(5,.ptr 2 0 2),(6,.int .i64 k),(7,.int .i64 (calmI (vals rs) o)),(17,.int .i64 L),(18,.int .i64 k)] (TM (VL nl ex sz rs) o) =
      some (.exit 2,[(5,.ptr 2 0 2),(6,.int .i64 k),(7,.int .i64 (calmI (vals rs) (settle (vals rs) n o))),(17,.int .i64 L),(18,.int .i64 k)],TM (VL nl ex sz rs) (settle (vals rs) n o)) := by
  induction n with
  | zero => intro o D h; have := D.own; omega
  | succ n ih =>
    intro o D h
    rw [share_Rings.L0_eq,settle]
    by_cases hc : calmI (vals rs) o = -1
    · rw [if_pos hc]
      have D2 := D.of_len (turnI_length (vals rs) o)
      have hlt := ownS_lt (by rw [vals_length]; exact D.pos) hc
      have ih := ih (turnI (vals rs) o) D2 (by omega)
      have ht := turn_c nl ex sz D hc
      have hm := calm_m nl ex sz D2 (m := TM (VL nl ex sz rs) (turnI (vals rs) o)) (i := 1) (b := true) rfl rfl
      simp only [TM,turnI_length] at ht hm ih ⊢
      simp only [share_Rings.B0,exF_seq,exF_region,exF_block,exF_cond,exF_skip,runL,wantL,stepL,evL,evC,LEnv.at,putL,loadFine,loadL,cellsAt,Trk.calm,Trk.hit,LEnv.keep,List.map_cons,List.map_nil,nbeq,nble,ofAVs,bin_eql,List.any_nil,Bool.or_false,Bool.or_true,Bool.and_true,Bool.false_and,Bool.not_true,Bool.not_false,Nat.reduceEqDiff,decide_true,decide_false,cond_true,cond_false,Nat.reduceAdd,Nat.reduceLeDiff,List.length_nil,List.length_cons,eq_self,List.append_nil,List.nil_append,List.getElem?_cons_zero,List.getElem?_cons_succ,List.take_succ_cons,List.drop_zero,List.take_nil,Nat.le_refl,hc,ht,hm,ih]
    · rw [if_neg hc]
      simp only [share_Rings.B0,exF_seq,exF_region,exF_cond,exF_exit,runL,wantL,stepL,evL,evC,LEnv.at,putL,loadFine,LEnv.keep,List.map_cons,List.map_nil,nbeq,bin_eql,Nat.reduceEqDiff,decide_true,decide_false,cond_true,cond_false,eq_self,hc]
theorem rings_loop (nl ex : Bool) (sz : Nat) {rs : List Row} (n : Nat) : ∀ (k : Nat) (o : List Int),DOk rs o → k + n = o.length →
    exF LP share_Rings.L1 [(5,.ptr 2 0 2),(17,.int .i64 (o.length : Int)),(18,.int .i64 (k : Int))] (TM (VL nl ex sz rs) o) =
      some (.exit 0,[(5,.ptr 2 0 2)],TM (VL nl ex sz rs) (ringsI (vals rs) n k o)) := by
  induction n with
  | zero =>
    intro k o D hk
    rw [share_Rings.L1_eq]
    simp only [share_Rings.B1,exF_seq,exF_region,exF_cond,exF_exit,runL,wantL,stepL,evL,LEnv.at,putL,loadFine,LEnv.keep,List.map_cons,List.map_nil,nbeq,bin_lss,Nat.reduceEqDiff,decide_true,decide_false,cond_true,cond_false,eq_self,show ¬ ((k : Int) < (o.length : Int)) by omega,ringsI]
  | succ n ih =>
    intro k o D hk
    have h6 := D.le6
    have hs := settle_loop nl ex sz (k : Int) (o.length : Int) 500 o D (by have := D.own; omega)
    have hm := calm_m nl ex sz D (m := TM (VL nl ex sz rs) o) (i := 1) (b := true) rfl rfl
    have hsl := settle_length (vals rs) 500 o
    have D3 := D.of_len hsl
    rw [share_Rings.L1_eq,ringsI]
    generalize settle (vals rs) 500 o = q at *
    have hkq : k < q.length := by omega
    have hko : k < o.length := by omega
    have hset : (q.set k (calmI (vals rs) q)).length = o.length := by simp [hsl]
    have ih := ih (k + 1) (q.set k (calmI (vals rs) q)) (D.of_len hset) (by omega)
    simp only [TM,hset,hsl] at ih hs hm ⊢
    simp only [share_Rings.B1,exF_seq,exF_region,exF_block,exF_cond,exF_skip,runL,wantL,stepL,evL,evC,LEnv.at,putL,loadFine,loadL,cellsAt,Trk.putNew,Trk.up,Trk.touch,Trk.gives,Trk.calm,Trk.hit,opdsOf,Trk.fresh,LEnv.keep,List.map_cons,List.map_nil,nbeq,nble,nblt,ofAVs,bin_add,bin_lss,natL_nat,List.any_cons,List.any_nil,Bool.or_false,Bool.or_true,Bool.and_true,Bool.false_and,Bool.not_true,Bool.not_false,Nat.reduceEqDiff,decide_true,decide_false,cond_true,cond_false,List.filter_nil,Nat.reduceAdd,Nat.reduceLeDiff,List.length_nil,List.length_cons,Nat.mul_one,eq_self,List.append_nil,List.nil_append,LV.cells,List.getElem?_cons_zero,List.getElem?_cons_succ,storeL,spliceL,List.take_succ_cons,List.drop_zero,List.drop_succ_cons,List.take_nil,Nat.le_refl,List.set_cons_zero,List.set_cons_succ,LV.scalar,List.all_cons,List.all_nil,show ((k : Int) < (o.length : Int)) by omega,hm,hs,hko,Nat.zero_add,List.length_map,hsl,set_int _ _ _ _ hkq,show k + 1 ≤ o.length by omega,wrap_succ (show k + 1 < 9223372036854775808 by omega),ih]
def ringsV (V : List (List Int)) : List Int := if chkV V = 0 then ringsI V (V.getD 0 []).length 0 (nones (V.getD 0 []).length) else []
theorem ringsP_c (nl ex : Bool) (sz : Nat) (rs : List Row) (hl : rs.length < 1000000) (hr : ∀ r ∈ rs,r.l.length < 1000000) (m : LMem) : clF LP n_share_Rings [VL nl ex sz rs] m = some (.P,RT (chkV (vals rs)) (ringsV (vals rs)),m) := by
  have hc := fun m => check_c nl ex sz rs hl hr m
  unfold ringsV
  by_cases h1 : chkV (vals rs) = 0
  · have D := vok_of h1
    obtain ⟨k1,k2,k3,k4,k5⟩ := D
    rw [vals0 rs k1] at *
    rw [if_pos h1]
    have he := fun m => empty_c nl ex sz rs k1 k5 m
    have hn : (nones rs[0].l.length).length = rs[0].l.length := by simp [nones]
    have D : DOk rs (nones rs[0].l.length) := ⟨k1,k2,fun i hi => by rw [hn,k3 i hi],k4,by rw [hn]; exact k5⟩
    have ht := rings_loop nl ex sz rs[0].l.length 0 (nones rs[0].l.length) D (by rw [hn]; omega)
    have htl := ringsI_length (vals rs) rs[0].l.length 0 (nones rs[0].l.length)
    rw [hn] at htl
    generalize ringsI (vals rs) rs[0].l.length 0 (nones rs[0].l.length) = r at *
    simp only [TM,hn,htl,Int.natCast_zero] at ht
    have hv := view_slp [⟨[VL nl ex sz rs,SLo 1 rs[0].l.length],true⟩,⟨r.map (LV.int .i64),true⟩,⟨[VL nl ex sz rs,SLo 1 rs[0].l.length],true⟩] 1 r true 0 rfl
    rw [htl] at hv
    rw [h1]
    refine call_Pv lp_share_Rings rfl (by simp [LV.pures,LV.pure]) ?_ hv m
    simp only [share_Rings,share_Rings.B,exF_seq,exF_region,exF_block,exF_cond,exF_ret,exF_skip,runL,wantL,stepL,evL,evC,LEnv.at,putL,loadFine,loadL,cellsAt,Trk.putNew,Trk.up,Trk.touch,Trk.gives,Trk.calm,Trk.hit,opdsOf,Trk.fresh,LEnv.keep,LEnv.ofFrom,List.map_cons,List.map_nil,nbeq,nble,ofAV,ofAVs,lenL,bin_neq,List.any_cons,List.any_nil,Bool.or_false,Bool.or_true,Bool.and_true,Bool.false_and,Bool.not_true,Bool.not_false,Nat.reduceEqDiff,decide_true,decide_false,cond_true,cond_false,List.filter_nil,Nat.reduceAdd,Nat.reduceLeDiff,reduceCtorEq,List.length_nil,List.length_cons,eq_self,retL,resultsL,resAllL,resOfL,List.append_nil,List.nil_append,List.cons_append,not_true_eq_false,ne_eq,LV.cells,allocL,List.getElem?_cons_zero,List.getElem?_cons_succ,storeL,spliceL,List.take_zero,List.take_succ_cons,List.drop_zero,List.drop_succ_cons,List.drop_nil,List.take_nil,Nat.le_refl,List.set_cons_zero,List.set_cons_succ,LV.scalar,List.all_cons,List.all_nil,hc,h1,he,ht,Nat.zero_add]
  · rw [if_neg h1]
    refine call_P lp_share_Rings rfl (by simp [LV.pures,LV.pure]) (m1 := []) ?_ (by simp [LV.pures,LV.pure]) m
    simp only [share_Rings,share_Rings.B,exF_seq,exF_region,exF_cond,exF_ret,runL,wantL,stepL,evL,evC,LEnv.at,putL,loadFine,LEnv.keep,LEnv.ofFrom,List.map_cons,List.map_nil,nbeq,ofAVs,bin_neq,Nat.reduceEqDiff,decide_true,decide_false,cond_true,cond_false,reduceCtorEq,eq_self,retL,resultsL,resAllL,resOfL,List.append_nil,List.nil_append,not_false_eq_true,ne_eq,hc,h1]
    rw [RT_err _ h1]
end Go.Am.Share
set_option linter.unusedVariables false
set_option linter.unusedSimpArgs false
set_option maxRecDepth 10000
namespace Go.Am.Share
end Go.Am.Share
set_option linter.unusedVariables false
set_option linter.unusedSimpArgs false
set_option maxRecDepth 10000
namespace Go.Am.Share
end Go.Am.Share
