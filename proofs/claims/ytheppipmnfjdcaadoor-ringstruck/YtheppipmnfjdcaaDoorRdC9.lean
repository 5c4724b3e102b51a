import Derived.Test.YtheppipmnfjdcaaDoorRdC6
set_option linter.unusedVariables false
set_option linter.unusedSimpArgs false
set_option maxRecDepth 10000
namespace Go.Am.Ring
open Go.Am.G
theorem costE_loop (P : List (Nat × Nat)) (hP : P.length ≤ 12) (n0 : Nat) (hn : n0 ≤ 6) (form done : Nat) (hf : form < 6) (hd : done < 64) (may fe wa : LV) (M : LMem) (n : Nat) : ∀ (y : Nat),y + n = n0 → sumC P form done y ≤ y * 12 →
    exF LP ring_table_cost.L0 [(0,.elt (cellsT n0 (ltL P) may fe wa) 0),(1,.int .i64 (form : Int)),(2,.int .i64 (done : Int)),(7,.int .i64 ((sumC P form done y : Nat) : Int)),(12,.int .i64 (n0 : Int)),(13,.int .i64 (y : Int))] M = some (.exit 0,[(7,.int .i64 ((sumC P form done n0 : Nat) : Int))],M) := by
  induction n with
  | zero =>
    intro y hy _
    obtain rfl : y = n0 := by omega
    rw [ring_table_cost.L0_eq]
    simp only [ring_table_cost.B0,exF_seq,exF_region,exF_cond,exF_exit,runL,wantL,stepL,evL,LEnv.at,putL,loadFine,LEnv.keep,List.map_cons,List.map_nil,nbeq,bin_lss,Nat.reduceEqDiff,decide_true,decide_false,cond_true,cond_false,reduceCtorEq,eq_self,show ¬ ((y : Int) < (y : Int)) by omega]
  | succ n ih =>
    intro y hy hs
    have hcnt : P.count (form,y) ≤ 12 := Nat.le_trans List.count_le_length hP
    have ih := ih (y + 1) (by omega) (by rw [sumC]; split <;> omega)
    rw [sumC] at ih
    have h1 := sshr (a := done) (i := y) (by omega)
    have h2 := sand1 (a := done / 2 ^ y) (Nat.lt_of_le_of_lt (Nat.div_le_self _ _) (by omega))
    have hat := cT_lt n0 (ltL P) may fe wa (ltL_len P) (form * 6 + y) _ (ltL_at P form y hf (by omega))
    rw [← Nat.add_assoc] at hat
    rw [ring_table_cost.L0_eq]
    cases hb : done.testBit y
    · rw [hb] at ih
      simp only [Bool.false_eq_true,if_false,Nat.add_zero] at ih
      have hbd := bit_dec done y
      rw [hb] at hbd
      simp only [ring_table_cost.B0,exF_seq,exF_region,exF_block,exF_cond,exF_skip,runL,wantL,stepL,evL,evC,LEnv.at,putL,loadFine,LEnv.keep,List.map_cons,List.map_nil,nbeq,bin_add,bin_eql,bin_lss,Nat.reduceEqDiff,decide_true,decide_false,cond_true,cond_false,reduceCtorEq,eq_self,show ((y : Int) < (n0 : Int)) by omega,h1,h2,hbd,wrap_succ (show y + 1 < 9223372036854775808 by omega),ih]
    · rw [hb] at ih
      simp only [if_true] at ih
      have hbd := bit_dec done y
      rw [hb] at hbd
      have hw : IntKind.i64.wrap (((sumC P form done y : Nat) : Int) + ((P.count (form,y) : Nat) : Int)) = ((sumC P form done y + P.count (form,y) : Nat) : Int) := by rw [wrap_in (by omega)]; omega
      simp only [ring_table_cost.B0,exF_seq,exF_region,exF_block,exF_cond,exF_skip,runL,wantL,stepL,evL,evC,LEnv.at,putL,loadFine,loadL,cellsAt,Trk.putNew,Trk.up,Trk.touch,Trk.gives,Trk.calm,opdsOf,Trk.fresh,LEnv.keep,List.map_cons,List.map_nil,nbeq,nble,nblt,bin_add,bin_eql,bin_lss,natL_nat,List.any_cons,List.any_nil,Bool.or_false,Bool.or_true,Bool.and_true,Bool.false_and,Bool.not_true,Bool.not_false,Nat.reduceEqDiff,decide_true,decide_false,cond_true,cond_false,List.filter_nil,Nat.reduceAdd,Nat.reduceLeDiff,reduceCtorEq,Nat.mul_one,eq_self,show ((y : Int) < (n0 : Int)) by omega,h1,h2,hbd,hf,show y < 6 by omega,Nat.zero_add,hat,hw,wrap_succ (show y + 1 < 9223372036854775808 by omega),ih]
theorem costE_c (P : List (Nat × Nat)) (hP : P.length ≤ 12) (n0 : Nat) (hn : n0 ≤ 6) (hlt : ∀ p ∈ P,p.2 < n0) (form done : Nat) (hf : form < 6) (hd : done < 64) (may fe wa : LV) (M : LMem) :
    clF LP n_ring_table_cost [.elt (cellsT n0 (ltL P) may fe wa) 0,.int .i64 (form : Int),.int .i64 (done : Int)] M = some (.R,.int .i64 ((costN P form done : Nat) : Int),M) := by
  have h0 := cT_0 n0 (ltL P) may fe wa
  have h := costE_loop P hP n0 hn form done hf hd may fe wa (roM M) n0 0 (by omega) (by simp [sumC])
  simp only [Int.natCast_zero,sumC] at h
  refine call_R lp_ring_table_cost rfl (m1 := roM M) ?_ rfl
  rw [← sumC_cost form done n0 P hlt]
  simp only [ring_table_cost,ring_table_cost.B,exF_seq,exF_region,exF_block,exF_ret,runL,wantL,stepL,evL,evC,LEnv.at,putL,loadFine,loadL,cellsAt,Trk.putNew,Trk.up,Trk.touch,Trk.gives,Trk.calm,opdsOf,Trk.fresh,LEnv.keep,LEnv.ofFrom,List.map_cons,List.map_nil,nbeq,nble,List.any_cons,List.any_nil,Bool.or_false,Bool.or_true,Bool.and_true,Bool.false_and,Bool.not_true,Bool.not_false,Nat.reduceEqDiff,decide_true,decide_false,cond_true,cond_false,List.filter_nil,Nat.reduceAdd,Nat.reduceLeDiff,reduceCtorEq,eq_self,retL,resultsL,resAllL,resOfL,List.drop_zero,h0,h]
def nxF (P : List (Nat × Nat)) (n done : Nat) (l : List Nat) : Option Nat := l.find? fun f => !done.testBit f && decide (costN P f done + (fwD anyM P n (done ||| 2 ^ f)).1 = (fwD anyM P n done).1)
theorem gre_some (P : List (Nat × Nat)) (hP : P.length ≤ 12) (n u done : Nat) (hu : leftN n done = u + 1) : ∃ g,nxF P n done (List.range n) = some g ∧ gre P n (u + 1) done = g :: gre P n u (done ||| 2 ^ g) ∧ g < n ∧ done.testBit g = false := by
  have h := gre_first P hP n (u + 1) done hu
  have hm := List.mem_of_find?_eq_some h
  have hl := (comps_ok anyM n (u + 1) done hu _ hm).2.1
  rw [gre] at hl ⊢
  unfold nxF
  split at hl
  · rename_i g hg
    refine ⟨g,hg,rfl,List.mem_range.1 (List.mem_of_find?_eq_some hg),?_⟩
    have := List.find?_some hg
    simp at this
    exact this.1
  · simp at hl
theorem order_in (n : Nat) (P : List (Nat × Nat)) (G : Good n P) (r done : Nat) (hd : done < 2 ^ n) (out : List Int) (ho : out.length ≤ 6) (j : Nat) : ∀ (f : Nat),f + j = n →
    exF LP ring_Order.L0 [(0,.int .i64 (n : Int)),(7,.elt (tabA n P) 0),(8,GV 0 out),(9,.int .i64 (done : Int)),(21,.int .i64 (n : Int)),(22,.int .i64 (r : Int)),(24,.int .i64 (n : Int)),(25,.int .i64 (f : Int))] (GM out) =
      match nxF P n done (List.range' f j) with
      | some g => some (.exit 2,[(0,.int .i64 (n : Int)),(7,.elt (tabA n P) 0),(8,GV 0 (out ++ [(g : Int)])),(9,.int .i64 ((done ||| 2 ^ g : Nat) : Int)),(21,.int .i64 (n : Int)),(22,.int .i64 (r : Int))],GM (out ++ [(g : Int)]))
      | none => some (.exit 2,[(0,.int .i64 (n : Int)),(7,.elt (tabA n P) 0),(8,GV 0 out),(9,.int .i64 (done : Int)),(21,.int .i64 (n : Int)),(22,.int .i64 (r : Int))],GM out) := by
  have hn : 1 ≤ n ∧ n ≤ 6 := ⟨G.pos,G.le6⟩
  have hS64 : 2 ^ n ≤ 64 := Nat.pow_le_pow_right (n := 2) (by omega) hn.2
  induction j with
  | zero =>
    intro f hf
    rw [ring_Order.L0_eq]
    simp only [ring_Order.B0,exF_seq,exF_region,exF_cond,exF_exit,runL,wantL,stepL,evL,LEnv.at,putL,loadFine,LEnv.keep,List.map_cons,List.map_nil,nbeq,bin_lss,Nat.reduceEqDiff,decide_true,decide_false,cond_true,cond_false,reduceCtorEq,eq_self,show ¬ ((f : Int) < (n : Int)) by omega,List.range'_zero,nxF,List.find?_nil]
  | succ j ih =>
    intro f hf
    have ih := ih (f + 1) (by omega)
    have hfn : f < n := by omega
    have hfi : (f : Int) < (n : Int) := by omega
    have hw := wrap_succ (show f + 1 < 9223372036854775808 by omega)
    have hsl := sshl (i := f) (by omega)
    have hp2 : (2 : Nat) ^ f < 64 := Nat.lt_of_lt_of_le (Nat.pow_lt_pow_right (by omega) hfn) hS64
    have hor := sor (a := done) (b := 2 ^ f) (by omega) (by omega)
    have hnl := next_lt done f n hd hfn
    have hct := fun M => costE_c P G.le12 n hn.2 (fun p hp => (G.lt p hp).2) f done (by omega) (by omega) (.func n_ring_anyForm [] []) (.lst false true 1 (2 ^ n) ((Ft anyM P n (2 ^ n) 0).map (LV.int .i64))) (.lst false true 1 (2 ^ n) ((Wt anyM P n (2 ^ n) 0).map (LV.int .i64))) M
    have hct : ∀ M,clF LP n_ring_table_cost [.elt (tabA n P) 0,.int .i64 (f : Int),.int .i64 (done : Int)] M = some (.R,.int .i64 ((costN P f done : Nat) : Int),M) := hct
    have h38 := tab_38 n P anyM n_ring_anyForm [] []
    have a1 := tF_at anyM P n _ hnl
    have a2 := tF_at anyM P n _ hd
    have hcl := costN_le P f done
    have h12 := G.le12
    have hle := (fwD_le anyM P n hn.2 (done ||| 2 ^ f)).1
    have hwc : IntKind.i64.wrap (((costN P f done : Nat) : Int) + (((fwD anyM P n (done ||| 2 ^ f)).1 : Nat) : Int)) = ((costN P f done + (fwD anyM P n (done ||| 2 ^ f)).1 : Nat) : Int) := by rw [wrap_in (by omega)]; omega
    rw [ring_Order.L0_eq,List.range'_succ,nxF,List.find?_cons]
    simp only [nxF] at ih
    cases hb : done.testBit f
    · have hne : ¬ (done ||| 2 ^ f = done) := fun c => by rw [(next_eq done f).1 c] at hb; cases hb
      have hnei : ¬ (((done ||| 2 ^ f : Nat) : Int) = (done : Int)) := by omega
      by_cases c : costN P f done + (fwD anyM P n (done ||| 2 ^ f)).1 = (fwD anyM P n done).1
      · have c' : ((costN P f done + (fwD anyM P n (done ||| 2 ^ f)).1 : Nat) : Int) = (((fwD anyM P n done).1 : Nat) : Int) := by omega
        have ap := append_grow0 out (f : Int) true (by omega)
        simp only [Bool.not_false,Bool.true_and,c,decide_true]
        simp only [ring_Order.B0,beqT,exF_seq,exF_region,exF_block,exF_cond,exF_exit,exF_skip,runL,wantL,stepL,evL,evC,LEnv.at,putL,loadFine,loadL,cellsAt,Trk.putNew,Trk.up,Trk.touch,Trk.gives,Trk.calm,opdsOf,Trk.fresh,LEnv.keep,List.map_cons,List.map_nil,nbeq,nble,nblt,ofAV,ofAVs,bin_add,bin_eql,bin_neq,bin_lss,natL_nat,List.any_cons,List.any_nil,Bool.or_false,Bool.or_true,Bool.and_true,Bool.false_and,Bool.not_true,Bool.not_false,Nat.reduceEqDiff,decide_true,decide_false,cond_true,cond_false,List.filter_nil,List.filter_cons,Nat.reduceAdd,reduceCtorEq,List.length_nil,List.length_cons,Nat.mul_one,if_true,eq_self,List.append_nil,List.nil_append,not_false_eq_true,ne_eq,views_pures,LV.pures,LV.pure,freeze,Nat.reduceDiv,LV.cells,spliceL,List.take_zero,List.take_succ_cons,List.drop_succ_cons,List.drop_nil,List.take_nil,Nat.le_refl,fillL,hfi,hsl,hor,hnei,hct,Nat.zero_add,h38,hnl,hd,a1,a2,hwc,c',ap]
      · have c' : ¬ ((costN P f done + (fwD anyM P n (done ||| 2 ^ f)).1 : Nat) : Int) = (((fwD anyM P n done).1 : Nat) : Int) := by omega
        simp only [Bool.not_false,Bool.true_and,c,decide_false]
        simp only [ring_Order.B0,beqT,exF_seq,exF_region,exF_block,exF_cond,exF_skip,runL,wantL,stepL,evL,evC,LEnv.at,putL,loadFine,loadL,cellsAt,Trk.putNew,Trk.up,Trk.touch,Trk.gives,Trk.calm,opdsOf,Trk.fresh,LEnv.keep,List.map_cons,List.map_nil,nbeq,nble,nblt,ofAVs,bin_add,bin_eql,bin_neq,bin_lss,natL_nat,List.any_cons,List.any_nil,Bool.or_false,Bool.or_true,Bool.and_true,Bool.false_and,Bool.not_true,Bool.not_false,Nat.reduceEqDiff,decide_true,decide_false,cond_true,cond_false,List.filter_nil,List.filter_cons,Nat.reduceAdd,reduceCtorEq,Nat.mul_one,if_true,eq_self,List.append_nil,List.nil_append,not_false_eq_true,ne_eq,Nat.le_refl,hfi,hsl,hor,hnei,hct,Nat.zero_add,h38,hnl,hd,a1,a2,hwc,c',hw,ih]
    · have he := (next_eq done f).2 hb
      rw [he] at hor
      simp only [Bool.not_true,Bool.false_and]
      simp only [ring_Order.B0,beqT,exF_seq,exF_region,exF_block,exF_cond,exF_skip,runL,wantL,stepL,evL,evC,LEnv.at,putL,loadFine,LEnv.keep,List.map_cons,List.map_nil,nbeq,bin_add,bin_neq,bin_lss,Nat.reduceEqDiff,decide_true,decide_false,cond_true,cond_false,reduceCtorEq,eq_self,not_true_eq_false,ne_eq,hfi,hsl,hor,hw,ih]
theorem order_out (n : Nat) (P : List (Nat × Nat)) (G : Good n P) (j : Nat) : ∀ (r done : Nat) (out : List Int),r + j = n → done < 2 ^ n → leftN n done = j → out.length = r →
    exF LP ring_Order.L1 [(0,.int .i64 (n : Int)),(7,.elt (tabA n P) 0),(8,GV 0 out),(9,.int .i64 (done : Int)),(21,.int .i64 (n : Int)),(22,.int .i64 (r : Int))] (GM out) =
      some (.exit 0,[(8,GV 0 (out ++ ci (gre P n j done)))],GM (out ++ ci (gre P n j done))) := by
  have h6 := G.le6
  induction j with
  | zero =>
    intro r done out hr hd hl ho
    obtain rfl : r = n := by omega
    rw [ring_Order.L1_eq]
    simp only [ring_Order.B1,exF_seq,exF_region,exF_cond,exF_exit,runL,wantL,stepL,evL,LEnv.at,putL,loadFine,LEnv.keep,List.map_cons,List.map_nil,nbeq,bin_lss,Nat.reduceEqDiff,decide_true,decide_false,cond_true,cond_false,reduceCtorEq,eq_self,List.append_nil,show ¬ ((r : Int) < (r : Int)) by omega,gre,List.map_nil]
  | succ j ih =>
    intro r done out hr hd hl ho
    obtain ⟨g,hg,hge,hgn,hgb⟩ := gre_some P G.le12 n j done hl
    have hin := order_in n P G r done hd out (by omega) n 0 (by omega)
    rw [← List.range_eq_range',hg] at hin
    simp only [Int.natCast_zero] at hin
    have hnx := leftN_next done g hgb n hgn
    have ih := ih (r + 1) (done ||| 2 ^ g) (out ++ [(g : Int)]) (by omega) (next_lt done g n hd hgn) (by omega) (by simp; omega)
    have e : out ++ ci (gre P n (j + 1) done) = (out ++ [(g : Int)]) ++ ci (gre P n j (done ||| 2 ^ g)) := by rw [hge]; simp
    rw [e,ring_Order.L1_eq]
    simp only [ring_Order.B1,exF_seq,exF_region,exF_block,exF_cond,exF_skip,runL,wantL,stepL,evL,evC,LEnv.at,putL,loadFine,LEnv.keep,List.map_cons,List.map_nil,nbeq,bin_add,bin_lss,Nat.reduceEqDiff,decide_true,decide_false,cond_true,cond_false,reduceCtorEq,eq_self,show ((r : Int) < (n : Int)) by omega,hin,wrap_succ (show r + 1 < 9223372036854775808 by omega),ih]
theorem order_c (n : Nat) (P : List (Nat × Nat)) (G : Good n P) (nl ex : Bool) (sz : Nat) (m : LMem) :
    clF LP n_ring_Order [.int .i64 (n : Int),FN nl ex sz P] m = some (.P,.tup [RL (ci (gre P n n 0)),.int .i64 0],m) := by
  have hc := fun m => check_c nl ex sz (n : Int) (P.map castP) (by have := G.le12; simp; omega) m
  rw [chkF_of G] at hc
  have hf := fun m => filledA_c n P G nl ex sz m
  have h := order_out n P G n 0 0 [] (by omega) (Nat.two_pow_pos n) (leftN_none n) rfl
  rw [List.nil_append] at h
  have h : exF LP ring_Order.L1 [(0,.int .i64 (n : Int)),(7,.elt (tabA n P) 0),(8,.lst true true 0 0 []),(9,.int .i64 0),(21,.int .i64 (n : Int)),(22,.int .i64 0)] [] = some (.exit 0,[(8,GV 0 (ci (gre P n n 0)))],GM (ci (gre P n n 0))) := h
  refine call_Pv lp_ring_Order rfl (by simp [LV.pures,LV.pure]) (m1 := GM (ci (gre P n n 0))) (v := .tup [GV 0 (ci (gre P n n 0)),.int .i64 0]) ?_ (view_gv2 _ 0 _ _ rfl true fun c => by simp [GM,c]) m
  simp only [ring_Order,ring_Order.B,exF_seq,exF_region,exF_block,exF_cond,exF_ret,exF_skip,runL,wantL,stepL,evL,evC,LEnv.at,putL,loadFine,LEnv.keep,LEnv.ofFrom,List.map_cons,List.map_nil,nbeq,ofAVs,bin_neq,Nat.reduceEqDiff,decide_true,decide_false,cond_true,cond_false,Nat.reduceAdd,reduceCtorEq,eq_self,retL,resultsL,resAllL,resOfL,List.append_nil,List.nil_append,not_true_eq_false,ne_eq,hc,hf,h]
end Go.Am.Ring
set_option linter.unusedVariables false
set_option linter.unusedSimpArgs false
set_option maxRecDepth 10000
namespace Go.Am.Ring
open Go.Am.G
theorem trim_get (k : Nat) (vs : List LV) (m : LMem) (i : Nat) (h : i < k) : (trim k vs m)[i]? = m[i]? := by
  unfold trim
  cases LV.unders k vs && belowM k (m.take k)
  · rfl
  · simp [h]
theorem under_of_unders (k : Nat) : ∀ (vs : List LV),LV.unders k vs = true → ∀ v ∈ vs,LV.under k v = true
  | [],_,v,hv => by simp at hv
  | a :: r,h,v,hv => by
    simp only [LV.unders,Bool.and_eq_true] at h
    rcases List.mem_cons.1 hv with rfl | hv
    · exact h.1
    · exact under_of_unders k r h.2 v hv
theorem trim_keep (k : Nat) (vs : List LV) (m : LMem) (v : LV) (i : Nat) (hv : v ∈ vs) (hb : isBlk v i) : (trim k vs m)[i]? = m[i]? := by
  unfold trim
  cases h : LV.unders k vs && belowM k (m.take k)
  · rfl
  · simp only [Bool.and_eq_true] at h
    have := under_of_unders k vs h.1 v hv
    have hik : i < k := by
      cases v <;> simp [isBlk] at hb
      subst hb
      simpa [LV.under,nblt] using this
    simp [hik]
theorem lst_trim {m : LMem} {v : LV} {sz n : Nat} {cs : List LV} (h : Lst m v sz n cs) (k : Nat) (vs : List LV) (hv : v ∈ vs) : Lst (trim k vs m) v sz n cs := h.mono fun i hi => trim_keep k vs m v i hv hi
theorem freeze_cells (i : Nat) : ∀ (ids : List Nat) (m : LMem) (cs : List LV) (w : Bool),m[i]? = some ⟨cs,w⟩ → ∃ w',(freeze ids m)[i]? = some ⟨cs,w'⟩
  | [],m,cs,w,h => ⟨w,by rw [freeze_nil]; exact h⟩
  | j :: ids,m,cs,w,h => by
    have e : freeze (j :: ids) m = freeze ids (match m[j]? with | some b => m.set j ⟨b.cells,false⟩ | none => m) := rfl
    rw [e]
    cases hj : m[j]? with
    | none => exact freeze_cells i ids m cs w h
    | some b =>
      simp only
      by_cases c : j = i
      · subst c
        rw [h] at hj
        cases hj
        have hl : j < m.length := by
          rcases Nat.lt_or_ge j m.length with c | c
          · exact c
          · rw [List.getElem?_eq_none c] at h; cases h
        exact freeze_cells j ids _ cs false (by simp [hl])
      · exact freeze_cells i ids _ cs w (by rw [List.getElem?_set,if_neg c]; exact h)
theorem call_shown2 {C : LProg} {f : Nat} {lf : LFunc} (hC : C f = some lf) (hm : lf.mode = .P) {args vs : List LV} {ids : List Nat} {m : LMem} (hv : views m args = some (vs,ids)) (hp : LV.pures vs = true) {v : LV} (hc : clF C f vs [] = some (.P,v,[])) :
    ∃ m',clF C f args m = some (.P,v,m') ∧ (∀ i,i ∉ ids → m'[i]? = m[i]?) ∧ m'.length = m.length ∧ (∀ (i : Nat) cs w,m[i]? = some ⟨cs,w⟩ → ∃ w',m'[i]? = some ⟨cs,w'⟩) := by
  rw [clF_eq,hC] at hc ⊢
  simp only [callMode,hm,views_pures [] vs hp,hv] at hc ⊢
  split at hc
  · rename_i v1 m1 hr
    split at hc
    · rename_i v2 ids1 hv2
      simp only [Option.some.injEq,Prod.mk.injEq] at hc
      obtain ⟨_,rfl,_⟩ := hc
      refine ⟨_,rfl,fun i hi => ?_,?_,fun i cs w h => ?_⟩
      · cases (ids.isEmpty || (v2.plain || newIds v1 m1 ids1))
        · exact G.freeze_get i ids m hi
        · rfl
      · cases (ids.isEmpty || (v2.plain || newIds v1 m1 ids1))
        · exact G.freeze_length ids m
        · rfl
      · cases (ids.isEmpty || (v2.plain || newIds v1 m1 ids1))
        · exact freeze_cells i ids m cs w h
        · exact ⟨w,h⟩
    · cases hc
  · cases hc
def mayAB (a b : Nat) (f d : Nat) : Bool := !decide (f = a) || d.testBit b
theorem mayAB_c (a b f d : Nat) (hb : b < 6) (hd : d < 64) (m : LMem) : clF LP n_ring_Sure_1 [.int .i64 (f : Int),.int .i64 (d : Int),.elt [.int .i64 (a : Int)] 0,.elt [.int .i64 (b : Int)] 0] m = some (.P,.bool (mayAB a b f d),m) := by
  refine call_P lp_ring_Sure_1 rfl (by simp [LV.pures,LV.pure]) (m1 := []) ?_ rfl m
  have h1 := sshr (a := d) (i := b) (by omega)
  have h2 := sand1 (a := d / 2 ^ b) (Nat.lt_of_le_of_lt (Nat.div_le_self _ _) (by omega))
  have hbd := bit_dec d b
  unfold mayAB
  by_cases c : f = a
  · subst c
    simp only [ring_Sure_1,ring_Sure_1.B,beqF,exF_seq,exF_region,exF_ret,runL,wantL,stepL,evL,evC,LEnv.at,putL,loadFine,loadL,cellsAt,Trk.putNew,Trk.up,Trk.touch,Trk.gives,Trk.calm,opdsOf,Trk.fresh,LEnv.keep,LEnv.ofFrom,List.map_cons,List.map_nil,nbeq,nble,bin_eql,bin_neq,List.any_cons,List.any_nil,Bool.or_false,Bool.false_or,Bool.or_true,Bool.and_true,Bool.false_and,Bool.not_true,Bool.not_false,Nat.reduceEqDiff,decide_true,decide_false,cond_true,cond_false,List.filter_nil,Nat.reduceAdd,Nat.reduceLeDiff,reduceCtorEq,List.length_nil,List.length_cons,eq_self,retL,resultsL,resAllL,resOfL,not_true_eq_false,ne_eq,List.getElem?_cons_zero,List.take_succ_cons,List.drop_zero,List.take_nil,Nat.le_refl,h1,h2,hbd]
  · have c' : ¬ (f : Int) = (a : Int) := by omega
    simp only [ring_Sure_1,ring_Sure_1.B,beqF,exF_seq,exF_region,exF_ret,runL,wantL,stepL,evL,evC,LEnv.at,putL,loadFine,loadL,cellsAt,Trk.putNew,Trk.up,Trk.touch,Trk.gives,Trk.calm,opdsOf,Trk.fresh,LEnv.keep,LEnv.ofFrom,List.map_cons,List.map_nil,nbeq,nble,bin_neq,List.any_cons,List.any_nil,Bool.or_false,Bool.true_or,Bool.or_true,Bool.and_true,Bool.false_and,Bool.not_true,Bool.not_false,Nat.reduceEqDiff,decide_true,decide_false,cond_true,cond_false,List.filter_nil,Nat.reduceAdd,Nat.reduceLeDiff,reduceCtorEq,List.length_nil,List.length_cons,eq_self,retL,resultsL,resAllL,resOfL,not_false_eq_true,ne_eq,List.getElem?_cons_zero,List.take_succ_cons,List.drop_zero,List.take_nil,Nat.le_refl,c',c]
abbrev tabS (n : Nat) (P : List (Nat × Nat)) (a b : Nat) : List LV := tabV n P (mayAB a b) n_ring_Sure_1 [] [.elt [.int .i64 (a : Int)] 0,.elt [.int .i64 (b : Int)] 0]
theorem filledS_c (n : Nat) (P : List (Nat × Nat)) (G : Good n P) (nl ex : Bool) (sz : Nat) (a b : Nat) (hb : b < n) (m : LMem) :
    clF LP n_ring_filled [.int .i64 (n : Int),FN nl ex sz P,.func n_ring_Sure_1 [] [.elt [.int .i64 (a : Int)] 0,.elt [.int .i64 (b : Int)] 0]] m = some (.P,.elt (tabS n P a b) 0,m) := by
  have h6 := G.le6
  have hS64 : 2 ^ n ≤ 64 := Nat.pow_le_pow_right (n := 2) (by omega) h6
  exact filled_c n P G nl ex sz n_ring_Sure_1 [] _ ⟨rfl,by simp [LV.pures,LV.pure]⟩ rfl (mayAB a b) (fun f d m hf hd => mayAB_c a b f d (by omega) (by omega) m) m
theorem view_box (k : Nat) (m : LMem) (i : Nat) (x : Int) (w : Bool) (h : m[i]? = some ⟨[.int .i64 x],w⟩) : view (k + 3) m (.ptr i 0 1) = some (.elt [.int .i64 x] 0,[i]) := by
  simp only [view,h,viewL_pures _ _ _ (show LV.pures [LV.int .i64 x] = true from rfl),nbeq,List.length_cons,List.length_nil,decide_true,cond_true]
theorem views_S (m : LMem) (n : Int) (fl : LV) (hf : fl.pure = true) (g ia ib : Nat) (a b : Int) (wa wb : Bool) (ha : m[ia]? = some ⟨[.int .i64 a],wa⟩) (hb : m[ib]? = some ⟨[.int .i64 b],wb⟩) :
    views m [.int .i64 n,fl,.func g [] [.ptr ia 0 1,.ptr ib 0 1]] = some ([.int .i64 n,fl,.func g [] [.elt [.int .i64 a] 0,.elt [.int .i64 b] 0]],[ia,ib]) := by
  show viewL 100 m _ = _
  rw [viewL.eq_def]
  simp only [show LV.pures [.int .i64 n,fl,.func g [] [.ptr ia 0 1,.ptr ib 0 1]] = false by simp [LV.pures,LV.pure],cond_false]
  rw [viewC.eq_def]
  simp only [view_pure 96 m (.int .i64 n) rfl]
  rw [viewC.eq_def]
  simp only [view_pure 95 m fl hf]
  rw [viewC.eq_def]
  simp only [show view 96 m (.func g [] [.ptr ia 0 1,.ptr ib 0 1]) = some (.func g [] [.elt [.int .i64 a] 0,.elt [.int .i64 b] 0],[ia,ib]) by
    have h2 : viewL 95 m [.ptr ia 0 1,.ptr ib 0 1] = some ([.elt [.int .i64 a] 0,.elt [.int .i64 b] 0],[ia,ib]) := by
      rw [viewL.eq_def]
      simp only [show LV.pures [.ptr ia 0 1,.ptr ib 0 1] = false from rfl,cond_false]
      rw [viewC.eq_def]
      simp only [view_box 90 m ia a wa ha]
      rw [viewC.eq_def]
      simp only [view_box 89 m ib b wb hb]
      rw [viewC.eq_def]
      rfl
    rw [view.eq_def]
    simp only [h2,viewL_pures _ _ [] rfl]
    rfl]
  rw [viewC.eq_def]
  rfl
end Go.Am.Ring
set_option linter.unusedVariables false
set_option linter.unusedSimpArgs false
set_option maxRecDepth 10000
namespace Go.Am.Ring
open Go.Am.G
def sureB (n : Nat) (P : List (Nat × Nat)) (a b : Nat) : Bool := !decide (a = b) && decide ((fwD anyM P n 0).1 < (fwD (mayAB a b) P n 0).1)
abbrev Pcs (l : List (Nat × Nat)) : List LV := pcI (l.map castP)
theorem Pcs_len (l : List (Nat × Nat)) : (Pcs l).length = l.length * 2 := by rw [pcI_len,List.length_map]
theorem Pcs_scalar (l : List (Nat × Nat)) : (Pcs l).all LV.scalar = true := by
  induction l with
  | nil => rfl
  | cons a r ih => exact ih
theorem Pcs_snoc (l : List (Nat × Nat)) (a b : Nat) : Pcs (l ++ [(a,b)]) = Pcs l ++ [.int .i64 (a : Int),.int .i64 (b : Int)] := by simp [Pcs,pcI,pc,castP]
def sureL (n : Nat) (P : List (Nat × Nat)) (a : Nat) (l : List Nat) : List (Nat × Nat) := (l.filter (sureB n P a)).map fun b => (a,b)
theorem sure_in (n : Nat) (P : List (Nat × Nat)) (G : Good n P) (nl ex : Bool) (sz : Nat) (a : Nat) (ha : a < n) (ia : Nat) (j : Nat) : ∀ (b : Nat) (M : LMem) (v : LV) (out : List (Nat × Nat)),b + j = n → out.length ≤ 100 + b → Lst M v 2 out.length (Pcs out) → (∃ w,M[ia]? = some ⟨[.int .i64 (a : Int)],w⟩) → ¬ isBlk v ia →
    ∃ v' M',exF LP ring_Sure.L0 [(0,.int .i64 (n : Int)),(1,FN nl ex sz P),(7,.int .i64 (((fwD anyM P n 0).1 : Nat) : Int)),(8,v),(9,.ptr ia 0 1),(26,.int .i64 (n : Int)),(27,.int .i64 (a : Int)),(30,.int .i64 (n : Int)),(31,.int .i64 (b : Int))] M =
      some (.exit 2,[(0,.int .i64 (n : Int)),(1,FN nl ex sz P),(7,.int .i64 (((fwD anyM P n 0).1 : Nat) : Int)),(8,v'),(26,.int .i64 (n : Int)),(27,.int .i64 (a : Int))],M') ∧
      Lst M' v' 2 (out ++ sureL n P a (List.range' b j)).length (Pcs (out ++ sureL n P a (List.range' b j))) := by
  have h6 := G.le6
  induction j with
  | zero =>
    intro b M v out hb hout hL hia hbl
    refine ⟨v,M,?_,by simpa [sureL] using hL⟩
    rw [ring_Sure.L0_eq]
    simp only [ring_Sure.B0,exF_seq,exF_region,exF_cond,exF_exit,runL,wantL,stepL,evL,LEnv.at,putL,loadFine,LEnv.keep,List.map_cons,List.map_nil,nbeq,bin_lss,Nat.reduceEqDiff,decide_true,decide_false,cond_true,cond_false,reduceCtorEq,eq_self,show ¬ ((b : Int) < (n : Int)) by omega]
  | succ j ih =>
    intro b M v out hb hout hL hia hbl
    obtain ⟨w,hia⟩ := hia
    have hbn : b < n := by omega
    have hbi : (b : Int) < (n : Int) := by omega
    have hw := wrap_succ (show b + 1 < 9223372036854775808 by omega)
    have hial : ia < M.length := by
      rcases Nat.lt_or_ge ia M.length with c | c
      · exact c
      · rw [List.getElem?_eq_none c] at hia; cases hia
    have la := last_at M ⟨[.int .i64 (b : Int)],true⟩
    have hia1 : ∀ x : LBlk,(M ++ [x])[ia]? = some ⟨[.int .i64 (a : Int)],w⟩ := fun x => by rw [List.getElem?_append_left hial,hia]
    have hLM : Lst (M ++ [⟨[.int .i64 (b : Int)],true⟩]) v 2 out.length (Pcs out) := hL.mono fun i hi => List.getElem?_append_left (hL.lt i hi)
    have hself : ¬ (M.length + 1 ≤ M.length) := by omega
    rw [List.range'_succ]
    by_cases c : a = b
    · have hs : sureL n P a (b :: List.range' (b + 1) j) = sureL n P a (List.range' (b + 1) j) := by
        unfold sureL
        rw [List.filter_cons_of_neg (by simp [sureB,c])]
      rw [hs]
      generalize hvs : ([.int .i64 (n : Int),FN nl ex sz P,.int .i64 (((fwD anyM P n 0).1 : Nat) : Int),v,.ptr ia 0 1,.int .i64 (n : Int),.int .i64 (a : Int),.int .i64 (n : Int),.int .i64 ((b + 1 : Nat) : Int)] : List LV) = vs
      have hvm : v ∈ vs := by rw [← hvs]; simp
      obtain ⟨v',M',hex,hL'⟩ := ih (b + 1) (trim M.length vs (M ++ [⟨[.int .i64 (b : Int)],true⟩])) v out (by omega) (by omega) (lst_trim hLM _ _ hvm) ⟨w,by rw [trim_get _ _ _ _ hial,hia1]⟩ hbl
      refine ⟨v',M',?_,hL'⟩
      subst hvs
      subst c
      rw [ring_Sure.L0_eq]
      simp only [ring_Sure.B0,exF_seq,exF_region,exF_block,exF_cond,exF_exit,exF_skip,runL,wantL,stepL,evL,evC,LEnv.at,putL,loadFine,loadL,cellsAt,Trk.putNew,Trk.up,Trk.touch,Trk.gives,Trk.calm,Trk.hit,LEnv.keep,List.map_cons,List.map_nil,nbeq,nble,ofAV,ofAVs,bin_add,bin_eql,bin_lss,List.any_nil,Bool.or_false,Bool.false_or,Bool.true_or,Bool.and_true,Nat.reduceEqDiff,decide_true,decide_false,cond_true,cond_false,List.filter_nil,Nat.reduceAdd,Nat.reduceLeDiff,reduceCtorEq,List.length_nil,List.length_cons,eq_self,List.append_nil,List.nil_append,LV.cells,allocL,List.getElem?_cons_zero,storeL,spliceL,List.take_zero,List.take_succ_cons,List.drop_zero,List.drop_succ_cons,List.drop_nil,List.take_nil,Nat.le_refl,LV.scalar,List.all_cons,List.all_nil,List.length_append,hbi,last_at,last_set,hia1,hw,envVals,hex]
    · have c' : ¬ (a : Int) = (b : Int) := by omega
      have hv := views_S (M ++ [⟨[.int .i64 (b : Int)],true⟩]) (n : Int) (FN nl ex sz P) (by simp [LV.pure]) n_ring_Sure_1 ia M.length (a : Int) (b : Int) w true (hia1 _) la
      obtain ⟨m2,hc,hk,hlen2,hkc⟩ := call_shown2 lp_ring_filled rfl hv (by simp [LV.pures,LV.pure]) (filledS_c n P G nl ex sz a b hbn [])
      obtain ⟨w2,hia2⟩ := hkc ia _ _ (hia1 _)
      obtain ⟨w3,hib2⟩ := hkc M.length _ _ la
      have hL2 : Lst m2 v 2 out.length (Pcs out) := hLM.mono fun i hi => hk i (by
        have h1 := hL.lt i hi
        simp only [List.mem_cons,List.not_mem_nil,or_false,not_or]
        exact ⟨fun e => hbl (e ▸ hi),by omega⟩)
      have h38 := tab_38 n P (mayAB a b) n_ring_Sure_1 [] [.elt [.int .i64 (a : Int)] 0,.elt [.int .i64 (b : Int)] 0]
      have hat := tF_at (mayAB a b) P n 0 (Nat.two_pow_pos n)
      have hpos := Nat.two_pow_pos n
      generalize hvs : ([.int .i64 (n : Int),FN nl ex sz P,.int .i64 (((fwD anyM P n 0).1 : Nat) : Int),v,.ptr ia 0 1,.int .i64 (n : Int),.int .i64 (a : Int),.int .i64 (n : Int),.int .i64 ((b + 1 : Nat) : Int)] : List LV) = vs
      have hvm : v ∈ vs := by rw [← hvs]; simp
      by_cases c2 : (fwD anyM P n 0).1 < (fwD (mayAB a b) P n 0).1
      · have hs : sureL n P a (b :: List.range' (b + 1) j) = (a,b) :: sureL n P a (List.range' (b + 1) j) := by
          unfold sureL
          rw [List.filter_cons_of_pos (by simp [sureB,c,c2])]
          rfl
        have c2' : (((fwD anyM P n 0).1 : Nat) : Int) < (((fwD (mayAB a b) P n 0).1 : Nat) : Int) := by omega
        obtain ⟨v3,m3,hap,hL3,hk3,hlen3,hblk3⟩ := hL2.append (x := .lst false true 2 1 [.int .i64 (a : Int),.int .i64 (b : Int)]) (k := 1) (news := [.int .i64 (a : Int),.int .i64 (b : Int)]) (bytes := 16) (by simp [contents,nbeq]) rfl (by omega) (by omega) rfl
        rw [← Pcs_snoc] at hL3
        have hL3 : Lst m3 v3 2 (out ++ [(a,b)]).length (Pcs (out ++ [(a,b)])) := by simpa using hL3
        rw [hs,List.append_cons]
        generalize hvs3 : ([.int .i64 (n : Int),FN nl ex sz P,.int .i64 (((fwD anyM P n 0).1 : Nat) : Int),v3,.ptr ia 0 1,.int .i64 (n : Int),.int .i64 (a : Int),.int .i64 (n : Int),.int .i64 ((b + 1 : Nat) : Int)] : List LV) = vs3
        have hvm3 : v3 ∈ vs3 := by rw [← hvs3]; simp
        have hia3 : m3[ia]? = some ⟨[.int .i64 (a : Int)],w2⟩ := by rw [hk3 ia (by rw [hlen2]; simp; omega) hbl,hia2]
        obtain ⟨v',M',hex,hL'⟩ := ih (b + 1) (trim M.length vs3 m3) v3 (out ++ [(a,b)]) (by omega) (by simp; omega) (lst_trim hL3 _ _ hvm3) ⟨w2,by rw [trim_get _ _ _ _ hial,hia3]⟩ (by
          intro h
          rcases hblk3 ia h with h | h
          · exact hbl h
          · rw [hlen2] at h; simp at h; omega)
        refine ⟨v',M',?_,hL'⟩
        subst hvs3
        rw [ring_Sure.L0_eq]
        simp only [ring_Sure.B0,exF_seq,exF_region,exF_block,exF_cond,exF_skip,runL,wantL,stepL,evL,evC,LEnv.at,putL,loadFine,loadL,cellsAt,Trk.putNew,Trk.up,Trk.touch,Trk.gives,Trk.calm,Trk.hit,opdsOf,Trk.fresh,LEnv.keep,List.map_cons,List.map_nil,nbeq,nble,nblt,ofAV,ofAVs,bin_add,bin_eql,bin_lss,bin_gtr,natL_zero,List.any_cons,List.any_nil,Bool.or_false,Bool.false_or,Bool.true_or,Bool.or_true,Bool.and_true,Bool.false_and,Bool.not_true,Bool.not_false,Nat.reduceEqDiff,decide_true,decide_false,cond_true,cond_false,List.filter_nil,Nat.reduceAdd,Nat.reduceLeDiff,reduceCtorEq,List.length_nil,List.length_cons,Nat.mul_one,eq_self,List.append_nil,List.nil_append,List.cons_append,views_pures,LV.pures,LV.pure,freeze,Nat.reduceDiv,LV.cells,allocL,List.getElem?_cons_zero,storeL,spliceL,List.take_zero,List.take_succ_cons,List.drop_zero,List.drop_succ_cons,List.drop_nil,List.take_nil,Nat.le_refl,Nat.reduceMul,LV.scalar,List.all_cons,List.all_nil,fillL,List.length_append,hbi,last_at,last_set,hia1,hw,envVals,c',hc,Nat.zero_add,h38,hpos,hat,c2',hia2,hib2,hap,hex]
      · have hs : sureL n P a (b :: List.range' (b + 1) j) = sureL n P a (List.range' (b + 1) j) := by
          unfold sureL
          rw [List.filter_cons_of_neg (by simp [sureB,c,c2])]
        rw [hs]
        have c2' : ¬ (((fwD anyM P n 0).1 : Nat) : Int) < (((fwD (mayAB a b) P n 0).1 : Nat) : Int) := by omega
        obtain ⟨v',M',hex,hL'⟩ := ih (b + 1) (trim M.length vs m2) v out (by omega) (by omega) (lst_trim hL2 _ _ hvm) ⟨w2,by rw [trim_get _ _ _ _ hial,hia2]⟩ hbl
        refine ⟨v',M',?_,hL'⟩
        subst hvs
        rw [ring_Sure.L0_eq]
        simp only [ring_Sure.B0,exF_seq,exF_region,exF_block,exF_cond,exF_skip,runL,wantL,stepL,evL,evC,LEnv.at,putL,loadFine,loadL,cellsAt,Trk.putNew,Trk.up,Trk.touch,Trk.gives,Trk.calm,Trk.hit,opdsOf,Trk.fresh,LEnv.keep,List.map_cons,List.map_nil,nbeq,nble,nblt,ofAV,ofAVs,bin_add,bin_eql,bin_lss,bin_gtr,natL_zero,List.any_cons,List.any_nil,Bool.or_false,Bool.false_or,Bool.true_or,Bool.or_true,Bool.and_true,Bool.false_and,Bool.not_true,Bool.not_false,Nat.reduceEqDiff,decide_true,decide_false,cond_true,cond_false,List.filter_nil,Nat.reduceAdd,Nat.reduceLeDiff,reduceCtorEq,List.length_nil,List.length_cons,Nat.mul_one,eq_self,List.append_nil,List.nil_append,LV.cells,allocL,List.getElem?_cons_zero,storeL,spliceL,List.take_zero,List.take_succ_cons,List.drop_zero,List.drop_succ_cons,List.drop_nil,List.take_nil,Nat.le_refl,LV.scalar,List.all_cons,List.all_nil,List.length_append,hbi,last_at,last_set,hia1,hw,envVals,c',hc,Nat.zero_add,h38,hpos,hat,c2',hex]
theorem sureL_len (n : Nat) (P : List (Nat × Nat)) (a : Nat) (l : List Nat) : (sureL n P a l).length ≤ l.length := by
  unfold sureL
  rw [List.length_map]
  exact List.length_filter_le _ _
theorem sure_out (n : Nat) (P : List (Nat × Nat)) (G : Good n P) (nl ex : Bool) (sz : Nat) (j : Nat) : ∀ (a : Nat) (M : LMem) (v : LV) (out : List (Nat × Nat)),a + j = n → out.length ≤ a * 6 → Lst M v 2 out.length (Pcs out) →
    ∃ v' M',exF LP ring_Sure.L1 [(0,.int .i64 (n : Int)),(1,FN nl ex sz P),(7,.int .i64 (((fwD anyM P n 0).1 : Nat) : Int)),(8,v),(26,.int .i64 (n : Int)),(27,.int .i64 (a : Int))] M = some (.exit 0,[(8,v')],M') ∧
      Lst M' v' 2 (out ++ (List.range' a j).flatMap fun a => sureL n P a (List.range n)).length (Pcs (out ++ (List.range' a j).flatMap fun a => sureL n P a (List.range n))) := by
  have h6 := G.le6
  induction j with
  | zero =>
    intro a M v out ha hout hL
    refine ⟨v,M,?_,by simpa using hL⟩
    rw [ring_Sure.L1_eq]
    simp only [ring_Sure.B1,exF_seq,exF_region,exF_cond,exF_exit,runL,wantL,stepL,evL,LEnv.at,putL,loadFine,LEnv.keep,List.map_cons,List.map_nil,nbeq,bin_lss,Nat.reduceEqDiff,decide_true,decide_false,cond_true,cond_false,reduceCtorEq,eq_self,show ¬ ((a : Int) < (n : Int)) by omega]
  | succ j ih =>
    intro a M v out ha hout hL
    have hai : (a : Int) < (n : Int) := by omega
    have hw := wrap_succ (show a + 1 < 9223372036854775808 by omega)
    have la := last_at M ⟨[.int .i64 (a : Int)],true⟩
    have hLM : Lst (M ++ [⟨[.int .i64 (a : Int)],true⟩]) v 2 out.length (Pcs out) := hL.mono fun i hi => List.getElem?_append_left (hL.lt i hi)
    obtain ⟨v1,M1,hin,hL1⟩ := sure_in n P G nl ex sz a (by omega) M.length n 0 (M ++ [⟨[.int .i64 (a : Int)],true⟩]) v out (by omega) (by omega) hLM ⟨true,la⟩ (fun h => by have := hL.lt _ h; omega)
    rw [← List.range_eq_range'] at hL1
    simp only [Int.natCast_zero] at hin
    have hsl := sureL_len n P a (List.range n)
    rw [List.length_range] at hsl
    generalize hvs : ([.int .i64 (n : Int),FN nl ex sz P,.int .i64 (((fwD anyM P n 0).1 : Nat) : Int),v1,.int .i64 (n : Int),.int .i64 ((a + 1 : Nat) : Int)] : List LV) = vs
    have hvm : v1 ∈ vs := by rw [← hvs]; simp
    obtain ⟨v',M',hex,hL'⟩ := ih (a + 1) (trim M.length vs M1) v1 (out ++ sureL n P a (List.range n)) (by omega) (by simp; omega) (lst_trim hL1 _ _ hvm)
    refine ⟨v',M',?_,?_⟩
    · subst hvs
      rw [ring_Sure.L1_eq]
      simp only [ring_Sure.B1,exF_seq,exF_region,exF_block,exF_cond,exF_skip,runL,wantL,stepL,evL,evC,LEnv.at,putL,loadFine,LEnv.keep,List.map_cons,List.map_nil,nbeq,nble,ofAV,ofAVs,bin_add,bin_lss,Bool.and_true,Nat.reduceEqDiff,decide_true,decide_false,cond_true,cond_false,Nat.reduceAdd,reduceCtorEq,List.length_nil,List.length_cons,eq_self,List.append_nil,List.nil_append,LV.cells,allocL,storeL,spliceL,List.take_zero,List.drop_succ_cons,List.drop_nil,Nat.le_refl,LV.scalar,List.all_cons,List.all_nil,hai,last_at,last_set,hin,hw,envVals,hex]
    · rw [List.range'_succ,List.flatMap_cons,← List.append_assoc]
      exact hL'
def sureS (n : Nat) (P : List (Nat × Nat)) : List (Nat × Nat) := (List.range n).flatMap fun a => sureL n P a (List.range n)
theorem Pcs_pures (l : List (Nat × Nat)) : LV.pures (Pcs l) = true := pcI_pures _
theorem sure_c (n : Nat) (P : List (Nat × Nat)) (G : Good n P) (nl ex : Bool) (sz : Nat) : ∃ a b z,∀ m,clF LP n_ring_Sure [.int .i64 (n : Int),FN nl ex sz P] m = some (.P,.tup [FN a b z (sureS n P),.int .i64 0],m) := by
  have hc := fun m => check_c nl ex sz (n : Int) (P.map castP) (by have := G.le12; simp; omega) m
  rw [chkF_of G] at hc
  have hf := fun m => filledA_c n P G nl ex sz m
  have h38 := tab_38 n P anyM n_ring_anyForm [] []
  have hat := tF_at anyM P n 0 (Nat.two_pow_pos n)
  have hpos := Nat.two_pow_pos n
  obtain ⟨v',M',he,hL⟩ := sure_out n P G nl ex sz n 0 [] (.lst true true 0 0 []) [] (by omega) (by simp) (Lst.nil [] 2)
  rw [List.nil_append,← List.range_eq_range'] at hL
  have hL : Lst M' v' 2 (sureS n P).length (Pcs (sureS n P)) := hL
  obtain ⟨a,b,z,ids,hz,_,_,hvw⟩ := hL.view (Pcs_pures _) (by omega)
  refine ⟨a,b,z,fun m => ?_⟩
  simp only [Int.natCast_zero] at he
  have hv2 : view 100 M' (.tup [v',.int .i64 0]) = some (.tup [FN a b z (sureS n P),.int .i64 0],ids) := by
    simp only [FN_eq]
    by_cases hp : LV.pures [v',.int .i64 0] = true
    · have e := hvw 97
      have hvp : v'.pure = true := by simpa [LV.pures,LV.pure] using hp
      rw [view_pure 98 M' v' hvp] at e
      simp only [Option.some.injEq,Prod.mk.injEq] at e
      obtain ⟨e1,e2⟩ := e
      rw [view_pure 98 M' _ (by simpa [LV.pure] using hp),← e2,e1]
    · exact view_tup2 M' v' (.int .i64 0) _ ids hvw rfl (by simpa using hp)
  refine call_Pv lp_ring_Sure rfl (by simp [LV.pures,LV.pure]) (m1 := M') (v := .tup [v',.int .i64 0]) (ids := ids) ?_ hv2 m
  simp only [ring_Sure,ring_Sure.B,exF_seq,exF_region,exF_block,exF_cond,exF_ret,exF_skip,runL,wantL,stepL,evL,evC,LEnv.at,putL,loadFine,loadL,cellsAt,Trk.putNew,Trk.up,Trk.touch,Trk.gives,Trk.calm,opdsOf,Trk.fresh,LEnv.keep,LEnv.ofFrom,List.map_cons,List.map_nil,nbeq,nble,nblt,ofAVs,bin_neq,natL_zero,List.any_cons,List.any_nil,Bool.or_false,Bool.true_or,Bool.and_true,Bool.true_and,Bool.not_true,Bool.not_false,Nat.reduceEqDiff,decide_true,decide_false,cond_true,cond_false,List.filter_nil,List.filter_cons,Nat.reduceAdd,Nat.reduceLeDiff,reduceCtorEq,List.length_nil,Nat.mul_one,if_true,eq_self,retL,resultsL,resAllL,resOfL,List.append_nil,List.nil_append,not_true_eq_false,ne_eq,List.drop_zero,hc,hf,Nat.zero_add,h38,hpos,hat,he]
end Go.Am.Ring
set_option linter.unusedVariables false
set_option linter.unusedSimpArgs false
set_option maxRecDepth 10000
namespace Go.Am.Ring
open Go.Am.G
theorem pos_inj (o : List Nat) (a b : Nat) (ha : a ∈ o) (hab : a ≠ b) : pos o a ≠ pos o b := by
  induction o with
  | nil => simp at ha
  | cons f r ih =>
    rw [pos_cons,pos_cons]
    by_cases c1 : f = a
    · rw [if_pos c1,if_neg (fun c => hab (c1.symm.trans c))]
      have := pos_ge r b
      split
      · rename_i h; have := (pos_mem r b).2 h; omega
      · omega
    · rw [if_neg c1]
      have har : a ∈ r := by
        rcases List.mem_cons.1 ha with h | h
        · exact absurd h.symm c1
        · exact h
      have := (pos_mem r a).2 har
      have := ih har
      rw [if_pos har]
      by_cases c2 : f = b
      · rw [if_pos c2]; omega
      · rw [if_neg c2]
        split <;> omega
end Go.Am.Ring
