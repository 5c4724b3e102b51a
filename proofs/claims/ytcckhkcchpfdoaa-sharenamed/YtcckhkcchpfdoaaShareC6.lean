import Derived.Test.YtcckhkcchpfdoaaShareC5
set_option linter.unusedVariables false
set_option linter.unusedSimpArgs false
set_option maxRecDepth 10000
namespace Go.Am.Share
def eW (V : List (List Int)) (o : List Int) (i j : Nat) : Int := ws j (V.getD i []) o 0 - ws i (V.getD i []) o 0
def eX (V : List (List Int)) (o : List Int) (i j : Nat) : Int := ws j (V.getD i []) o 0 - (wg j (V.getD i []) o (0,0)).2 - ws i (V.getD i []) o 0
structure DOk (rs : List Row) (o : List Int) : Prop where
  pos : 0 < rs.length
  le4 : rs.length ≤ 4
  len : ∀ i (h : i < rs.length),o.length = rs[i].l.length
  ok : ∀ i (h : i < rs.length),Ok20 rs[i].l
  le6 : o.length ≤ 6
theorem vals_at (rs : List Row) (i : Nat) (h : i < rs.length) : (vals rs).getD i [] = rs[i].l := by simp [vals,List.getD_eq_getElem?_getD,List.getElem?_eq_getElem h]
theorem dok_of {rs : List Row} {o : List Int} (h : divE (vals rs) o = 0) : DOk rs o := by
  unfold divE at h
  split at h
  · rename_i h1; exact absurd h h1
  · rename_i h1
    have h1 : chkV (vals rs) = 0 := by simpa using h1
    obtain ⟨k1,k2,k3,k4⟩ := chkV_ok h1
    split at h
    · omega
    · rename_i h2
      have h2 : o.length = ((vals rs).getD 0 []).length := by simpa using h2
      rw [vals_length] at k1 k2
      have hrow : ∀ i (h : i < rs.length),rs[i].l ∈ vals rs := fun i h => List.mem_map.2 ⟨rs[i],List.getElem_mem h,rfl⟩
      exact ⟨k1,k2,fun i hi => by rw [h2,(k4 _ (hrow i hi)).1],fun i hi => (k4 _ (hrow i hi)).2,by omega⟩
theorem eX_eW (V : List (List Int)) (o : List Int) (i j : Nat) (h : Ok20 (V.getD i [])) (hx : 0 < eX V o i j) : 0 < eW V o i j := by
  have := wg_bound j (V.getD i []) o (0,0) h (by simp)
  unfold eX at hx; unfold eW; omega
theorem envy_d (nl ex nl' ex' : Bool) (sz sz' : Nat) {rs : List Row} {o : List Int} (D : DOk rs o) {i : Nat} (hi : i < rs.length) (j : Nat) (m : LMem) :
    clF LP n_share_division_envy [.agg [VL nl ex sz rs,IL nl' ex' sz' o],.int .i64 (i : Int),.int .i64 (j : Int)] m = some (.P,.tup [.int .i64 (eW (vals rs) o i j),.int .i64 (eX (vals rs) o i j)],m) := by
  rw [envy_c nl ex nl' ex' sz sz' rs i hi o (D.len i hi) (D.ok i hi) (by have := D.le6; omega) j m]
  have e1 := wg_ws j rs[i].l o (0,0)
  have e2 := wg_ws i rs[i].l o (0,0)
  simp only at e1 e2
  simp only [eW,eX,vals_at rs i hi,e1,e2]
def pcs (l : List (Nat × Nat)) : List LV := l.flatMap fun p => [.int .i64 (p.1 : Int),.int .i64 (p.2 : Int)]
theorem pcs_snoc (l : List (Nat × Nat)) (i j : Nat) : pcs (l ++ [(i,j)]) = pcs l ++ [.int .i64 (i : Int),.int .i64 (j : Int)] := by simp [pcs]
theorem pcs_length (l : List (Nat × Nat)) : (pcs l).length = l.length * 2 := by
  induction l with
  | nil => rfl
  | cons a r ih => simp [pcs] at ih ⊢; omega
theorem pures_pcs (l : List (Nat × Nat)) : LV.pures (pcs l) = true := by
  induction l with
  | nil => rfl
  | cons a r ih => exact (by simp [LV.pure,LV.pures]; exact ih : LV.pures (.int .i64 (a.1 : Int) :: .int .i64 (a.2 : Int) :: pcs r) = true)
def inner (P : Nat → Nat → Bool) (i k n : Nat) : List (Nat × Nat) := ((List.range' k n).filter (P i)).map fun j => (i,j)
theorem inner_succ (P : Nat → Nat → Bool) (i k n : Nat) : inner P i k (n + 1) = (if P i k then [(i,k)] else []) ++ inner P i (k + 1) n := by
  unfold inner
  rw [List.range'_succ,List.filter_cons]
  split <;> simp
def outer (P : Nat → Nat → Bool) (N k n : Nat) : List (Nat × Nat) := (List.range' k n).flatMap fun i => inner P i 0 N
theorem outer_succ (P : Nat → Nat → Bool) (N k n : Nat) : outer P N k (n + 1) = inner P k 0 N ++ outer P N (k + 1) n := by
  unfold outer
  rw [List.range'_succ,List.flatMap_cons]
def PM2 (d : LBlk) (E M : List (Nat × Nat)) : LMem := d :: (GMc E.length (pcs E) ++ GMc M.length (pcs M))
theorem PM2_0 (d : LBlk) (E M : List (Nat × Nat)) : (PM2 d E M)[0]? = some d := rfl
theorem PM2_E (d : LBlk) (E M : List (Nat × Nat)) (i j : Nat) (hE : E.length < 1000000) (h : E ≠ [] ∨ M = []) :
    appendL (PM2 d E M) 2 16 (GVc 1 2 E.length) (.lst false true 2 1 [.int .i64 (i : Int),.int .i64 (j : Int)]) = some (GVc 1 2 (E ++ [(i,j)]).length,PM2 d (E ++ [(i,j)]) M) := by
  have := append_c [d] (GMc M.length (pcs M)) 2 16 E.length (pcs E) [.int .i64 (i : Int),.int .i64 (j : Int)] true (pcs_length E) rfl rfl (by omega) (by omega) (by
    rcases h with c | rfl
    · exact .inl (by simpa using c)
    · exact .inr rfl)
  simpa [PM2,pcs_snoc] using this
theorem PM2_M (d : LBlk) (E M : List (Nat × Nat)) (i j : Nat) (hM : M.length < 1000000) (h : E ≠ []) :
    appendL (PM2 d E M) 2 16 (GVc 2 2 M.length) (.lst false true 2 1 [.int .i64 (i : Int),.int .i64 (j : Int)]) = some (GVc 2 2 (M ++ [(i,j)]).length,PM2 d E (M ++ [(i,j)])) := by
  have hE : E.length ≠ 0 := by simpa using h
  have := append_c (d :: GMc E.length (pcs E)) [] 2 16 M.length (pcs M) [.int .i64 (i : Int),.int .i64 (j : Int)] true (pcs_length M) rfl rfl (by omega) (by omega) (.inr rfl)
  simpa [PM2,pcs_snoc,GMc,hE] using this
theorem pairs_inner (nl ex nl' ex' : Bool) (sz sz' : Nat) {rs : List Row} {o : List Int} (D : DOk rs o) {i : Nat} (hi : i < rs.length) (n : Nat) : ∀ (k : Nat) (E M : List (Nat × Nat)),k + n = rs.length → E.length + n ≤ 10000 → M.length + n ≤ 10000 → (M ≠ [] → E ≠ []) →
    exF LP share_division_pairs.L0 [(1,.ptr 0 0 2),(2,GVc 1 2 E.length),(3,GVc 2 2 M.length),(4,.int .i64 (i : Int)),(10,.int .i64 (rs.length : Int)),(11,.int .i64 (i : Int)),(16,.int .i64 (rs.length : Int)),(17,.int .i64 (k : Int))] (PM2 ⟨[VL nl ex sz rs,IL nl' ex' sz' o],true⟩ E M) =
      some (.exit 2,[(1,.ptr 0 0 2),(2,GVc 1 2 (E ++ inner (fun i j => decide (0 < eW (vals rs) o i j)) i k n).length),(3,GVc 2 2 (M ++ inner (fun i j => decide (0 < eX (vals rs) o i j)) i k n).length),(10,.int .i64 (rs.length : Int)),(11,.int .i64 (i : Int))],
        PM2 ⟨[VL nl ex sz rs,IL nl' ex' sz' o],true⟩ (E ++ inner (fun i j => decide (0 < eW (vals rs) o i j)) i k n) (M ++ inner (fun i j => decide (0 < eX (vals rs) o i j)) i k n)) := by
  have h4 := D.le4
  induction n with
  | zero =>
    intro k E M hk hE hM hEM
    rw [share_division_pairs.L0_eq]
    simp only [share_division_pairs.B0,exF_seq,exF_region,exF_cond,exF_exit,runL,wantL,stepL,evL,LEnv.at,putL,loadFine,LEnv.keep,List.map_cons,List.map_nil,nbeq,bin_lss,Nat.reduceEqDiff,decide_true,decide_false,cond_true,cond_false,List.filter_nil,eq_self,List.append_nil,show ¬ ((k : Int) < (rs.length : Int)) by omega,inner,List.range'_zero]
  | succ n ih =>
    intro k E M hk hE hM hEM
    have hk2 : (k : Int) < (rs.length : Int) := by omega
    rw [share_division_pairs.L0_eq,inner_succ,inner_succ]
    have he := fun m => envy_d nl ex nl' ex' sz sz' D hi k m
    have ws := wrap_succ (show k + 1 < 9223372036854775808 by omega)
    by_cases h1 : 0 < eW (vals rs) o i k
    · by_cases h2 : 0 < eX (vals rs) o i k
      · have ih := ih (k + 1) (E ++ [(i,k)]) (M ++ [(i,k)]) (by omega) (by simp; omega) (by simp; omega) (by simp)
        have a1 := PM2_E ⟨[VL nl ex sz rs,IL nl' ex' sz' o],true⟩ E M i k (by omega) (by
          by_cases c : M = []
          · exact .inr c
          · exact .inl (hEM c))
        have a2 := PM2_M ⟨[VL nl ex sz rs,IL nl' ex' sz' o],true⟩ (E ++ [(i,k)]) M i k (by omega) (by simp)
        simp only [share_division_pairs.B0,exF_seq,exF_region,exF_block,exF_cond,exF_skip,runL,wantL,stepL,evL,evC,LEnv.at,putL,loadFine,loadL,cellsAt,Trk.calm,Trk.hit,LEnv.keep,List.map_cons,List.map_nil,nbeq,nble,ofAV,ofAVs,bin_add,bin_lss,bin_gtr,List.any_nil,Bool.or_false,Bool.false_or,Bool.true_or,Bool.and_true,Nat.reduceEqDiff,decide_true,decide_false,cond_true,cond_false,Nat.reduceAdd,Nat.reduceLeDiff,reduceCtorEq,List.length_nil,List.length_cons,if_true,eq_self,List.append_nil,List.nil_append,List.cons_append,views_pures,LV.pures,LV.pure,freeze,Nat.reduceDiv,LV.cells,List.getElem?_cons_zero,List.getElem?_cons_succ,spliceL,List.take_zero,List.take_succ_cons,List.drop_zero,List.drop_succ_cons,List.drop_nil,List.take_nil,Nat.le_refl,Nat.reduceMul,fillL,hk2,PM2_0,he,h1,h2,ws,ih,a1,a2,List.append_assoc]
      · have ih := ih (k + 1) (E ++ [(i,k)]) M (by omega) (by simp; omega) (by omega) (by simp)
        have a1 := PM2_E ⟨[VL nl ex sz rs,IL nl' ex' sz' o],true⟩ E M i k (by omega) (by
          by_cases c : M = []
          · exact .inr c
          · exact .inl (hEM c))
        simp only [share_division_pairs.B0,exF_seq,exF_region,exF_block,exF_cond,exF_skip,runL,wantL,stepL,evL,evC,LEnv.at,putL,loadFine,loadL,cellsAt,Trk.calm,Trk.hit,LEnv.keep,List.map_cons,List.map_nil,nbeq,nble,ofAV,ofAVs,bin_add,bin_lss,bin_gtr,List.any_nil,Bool.or_false,Bool.false_or,Bool.true_or,Bool.and_true,Nat.reduceEqDiff,decide_true,decide_false,cond_true,cond_false,Nat.reduceAdd,Nat.reduceLeDiff,reduceCtorEq,List.length_nil,List.length_cons,if_true,if_false,Bool.false_eq_true,eq_self,List.append_nil,List.nil_append,List.cons_append,views_pures,LV.pures,LV.pure,freeze,Nat.reduceDiv,LV.cells,List.getElem?_cons_zero,List.getElem?_cons_succ,spliceL,List.take_zero,List.take_succ_cons,List.drop_zero,List.drop_succ_cons,List.drop_nil,List.take_nil,Nat.le_refl,Nat.reduceMul,fillL,hk2,PM2_0,he,h1,h2,ws,ih,a1,List.append_assoc]
    · have h2 : ¬ 0 < eX (vals rs) o i k := fun c => h1 (eX_eW _ _ _ _ (by rw [vals_at rs i hi]; exact D.ok i hi) c)
      have ih := ih (k + 1) E M (by omega) (by omega) (by omega) hEM
      simp only [share_division_pairs.B0,exF_seq,exF_region,exF_block,exF_cond,exF_skip,runL,wantL,stepL,evL,evC,LEnv.at,putL,loadFine,loadL,cellsAt,Trk.calm,Trk.hit,LEnv.keep,List.map_cons,List.map_nil,nbeq,nble,ofAVs,bin_add,bin_lss,bin_gtr,List.any_nil,Bool.or_false,Bool.false_or,Bool.true_or,Bool.and_true,Nat.reduceEqDiff,decide_true,decide_false,cond_true,cond_false,Nat.reduceAdd,Nat.reduceLeDiff,List.length_nil,List.length_cons,if_false,Bool.false_eq_true,eq_self,List.append_nil,List.nil_append,List.getElem?_cons_zero,List.getElem?_cons_succ,List.drop_zero,Nat.le_refl,List.length_append,hk2,PM2_0,he,h1,h2,ws,ih,List.take_of_length_le]
theorem pairs_outer (nl ex nl' ex' : Bool) (sz sz' : Nat) {rs : List Row} {o : List Int} (D : DOk rs o) (n : Nat) : ∀ (k : Nat) (E M : List (Nat × Nat)),k + n = rs.length → E.length + 4 * n ≤ 1000 → M.length + 4 * n ≤ 1000 → (M ≠ [] → E ≠ []) →
    exF LP share_division_pairs.L1 [(1,.ptr 0 0 2),(2,GVc 1 2 E.length),(3,GVc 2 2 M.length),(10,.int .i64 (rs.length : Int)),(11,.int .i64 (k : Int))] (PM2 ⟨[VL nl ex sz rs,IL nl' ex' sz' o],true⟩ E M) =
      some (.exit 0,[(2,GVc 1 2 (E ++ outer (fun i j => decide (0 < eW (vals rs) o i j)) rs.length k n).length),(3,GVc 2 2 (M ++ outer (fun i j => decide (0 < eX (vals rs) o i j)) rs.length k n).length)],
        PM2 ⟨[VL nl ex sz rs,IL nl' ex' sz' o],true⟩ (E ++ outer (fun i j => decide (0 < eW (vals rs) o i j)) rs.length k n) (M ++ outer (fun i j => decide (0 < eX (vals rs) o i j)) rs.length k n)) := by
  have h4 := D.le4
  have hlen : ∀ (P : Nat → Nat → Bool) (i : Nat),(inner P i 0 rs.length).length ≤ 4 := fun P i => by
    unfold inner
    rw [List.length_map]
    have := List.length_filter_le (P i) (List.range' 0 rs.length)
    simp at this; omega
  induction n with
  | zero =>
    intro k E M hk hE hM hEM
    rw [share_division_pairs.L1_eq]
    simp only [share_division_pairs.B1,exF_seq,exF_region,exF_cond,exF_exit,runL,wantL,stepL,evL,LEnv.at,putL,loadFine,LEnv.keep,List.map_cons,List.map_nil,nbeq,bin_lss,Nat.reduceEqDiff,decide_true,decide_false,cond_true,cond_false,eq_self,List.append_nil,show ¬ ((k : Int) < (rs.length : Int)) by omega,outer,List.range'_zero,List.flatMap_nil]
  | succ n ih =>
    intro k E M hk hE hM hEM
    have hk2 : (k : Int) < (rs.length : Int) := by omega
    have hk3 : k < rs.length := by omega
    rw [share_division_pairs.L1_eq,outer_succ,outer_succ]
    have ws := wrap_succ (show k + 1 < 9223372036854775808 by omega)
    have hin := pairs_inner nl ex nl' ex' sz sz' D hk3 rs.length 0 E M (by omega) (by omega) (by omega) hEM
    have l1 := hlen (fun i j => decide (0 < eW (vals rs) o i j)) k
    have l2 := hlen (fun i j => decide (0 < eX (vals rs) o i j)) k
    have hsub : inner (fun i j => decide (0 < eX (vals rs) o i j)) k 0 rs.length ≠ [] → inner (fun i j => decide (0 < eW (vals rs) o i j)) k 0 rs.length ≠ [] := by
      intro c d
      apply c
      unfold inner at d ⊢
      rw [List.map_eq_nil_iff,List.filter_eq_nil_iff] at d ⊢
      intro j hj
      have := d j hj
      simp only [decide_eq_true_eq] at this ⊢
      exact fun c => this (eX_eW _ _ _ _ (by rw [vals_at rs k hk3]; exact D.ok k hk3) c)
    generalize inner (fun i j => decide (0 < eW (vals rs) o i j)) k 0 rs.length = A at *
    generalize inner (fun i j => decide (0 < eX (vals rs) o i j)) k 0 rs.length = B at *
    have ih := ih (k + 1) (E ++ A) (M ++ B) (by omega) (by simp; omega) (by simp; omega) (by
      intro c d
      rw [List.append_eq_nil_iff] at d
      apply c
      rw [List.append_eq_nil_iff]
      constructor
      · exact Classical.byContradiction fun e => hEM e d.1
      · exact Classical.byContradiction fun e => hsub e d.2)
    simp only [Int.natCast_zero] at hin
    simp only [share_division_pairs.B1,exF_seq,exF_region,exF_block,exF_cond,exF_skip,runL,wantL,stepL,evL,evC,LEnv.at,putL,loadFine,loadL,cellsAt,Trk.putNew,Trk.up,Trk.touch,Trk.gives,Trk.calm,Trk.hit,opdsOf,Trk.fresh,LEnv.keep,List.map_cons,List.map_nil,nbeq,nble,lenL,bin_add,bin_lss,List.any_cons,List.any_nil,Bool.or_false,Bool.false_or,Bool.true_or,Bool.and_true,Nat.reduceEqDiff,decide_true,decide_false,cond_true,cond_false,List.filter_nil,Nat.reduceAdd,Nat.reduceLeDiff,List.length_nil,List.length_cons,eq_self,List.getElem?_cons_zero,List.take_zero,List.take_succ_cons,List.drop_zero,hk2,PM2_0,hin,ws,ih,List.append_assoc]
end Go.Am.Share
set_option linter.unusedVariables false
set_option linter.unusedSimpArgs false
set_option maxRecDepth 10000
namespace Go.Am.Share
def PW (V : List (List Int)) (o : List Int) : List (Nat × Nat) := outer (fun i j => decide (0 < eW V o i j)) V.length 0 V.length
def PX (V : List (List Int)) (o : List Int) : List (Nat × Nat) := outer (fun i j => decide (0 < eX V o i j)) V.length 0 V.length
abbrev RP (l : List (Nat × Nat)) : LV := RLc 2 l.length (pcs l)
theorem pw_nil {rs : List Row} {o : List Int} (D : DOk rs o) (h : PW (vals rs) o = []) : PX (vals rs) o = [] := by
  unfold PW PX outer at *
  rw [List.flatMap_eq_nil_iff] at h ⊢
  intro i hi
  have := h i hi
  unfold inner at this ⊢
  rw [List.map_eq_nil_iff,List.filter_eq_nil_iff] at this ⊢
  intro j hj
  have := this j hj
  simp only [decide_eq_true_eq] at this ⊢
  have hil : i < rs.length := by simpa [vals_length,List.mem_range'] using hi
  exact fun c => this (eX_eW _ _ _ _ (by rw [vals_at rs i hil]; exact D.ok i hil) c)
theorem view_PM2 (d : LBlk) (E M : List (Nat × Nat)) (h : E = [] → M = []) : ∃ ids,view 100 (PM2 d E M) (.tup [GVc 1 2 E.length,GVc 2 2 M.length]) = some (.tup [RP E,RP M],ids) := by
  cases E with
  | nil =>
    obtain rfl := h rfl
    exact ⟨[],rfl⟩
  | cons p r =>
    have hE : (p :: r).length ≠ 0 := by simp
    have v1 : ∀ k,view (k + 3) (PM2 d (p :: r) M) (GVc 1 2 (p :: r).length) = some (RP (p :: r),[1]) := fun k => by
      have := view_c k [d] (GMc M.length (pcs M)) 2 (p :: r).length (pcs (p :: r)) (pcs_length _) (pures_pcs _) (by omega)
      rw [if_neg hE] at this
      simpa only [PM2,List.cons_append,List.nil_append,List.append_assoc,List.length_singleton] using this
    have v2 : ∀ k,view (k + 3) (PM2 d (p :: r) M) (GVc 2 2 M.length) = some (RP M,if M.length = 0 then [] else [2]) := fun k => by
      have := view_c k (d :: GMc (p :: r).length (pcs (p :: r))) [] 2 M.length (pcs M) (pcs_length _) (pures_pcs _) (by omega)
      have h2 : (d :: GMc (p :: r).length (pcs (p :: r))).length = 2 := by simp [GMc]
      rw [h2] at this
      simpa only [PM2,List.cons_append,List.append_nil] using this
    have hnp : LV.pures [GVc 1 2 (p :: r).length,GVc 2 2 M.length] = false := by simp [GVc,LV.pures,LV.pure]
    refine ⟨[1] ++ ((if M.length = 0 then [] else [2]) ++ []),?_⟩
    rw [view.eq_def]
    simp only
    rw [viewL.eq_def]
    simp only [hnp,cond_false]
    rw [viewC.eq_def]
    simp only [v1 94]
    rw [viewC.eq_def]
    simp only [v2 93]
    rw [viewC.eq_def]
theorem pairs_c (nl ex nl' ex' : Bool) (sz sz' : Nat) {rs : List Row} {o : List Int} (D : DOk rs o) (m : LMem) :
    clF LP n_share_division_pairs [.agg [VL nl ex sz rs,IL nl' ex' sz' o]] m = some (.P,.tup [RP (PW (vals rs) o),RP (PX (vals rs) o)],m) := by
  obtain ⟨ids,hv⟩ := view_PM2 ⟨[VL nl ex sz rs,IL nl' ex' sz' o],true⟩ (PW (vals rs) o) (PX (vals rs) o) (pw_nil D)
  refine call_Pv lp_share_division_pairs rfl (by simp [LV.pures,LV.pure]) ?_ hv m
  have h := pairs_outer nl ex nl' ex' sz sz' D rs.length 0 [] [] (by omega) (by have := D.le4; simp; omega) (by have := D.le4; simp; omega) (fun c => absurd rfl c)
  have h2 : exF LP share_division_pairs.L1 [(1,.ptr 0 0 2),(2,LNIL),(3,LNIL),(10,.int .i64 (rs.length : Int)),(11,.int .i64 0)] [⟨[VL nl ex sz rs,IL nl' ex' sz' o],true⟩] =
      some (.exit 0,[(2,GVc 1 2 (PW (vals rs) o).length),(3,GVc 2 2 (PX (vals rs) o).length)],PM2 ⟨[VL nl ex sz rs,IL nl' ex' sz' o],true⟩ (PW (vals rs) o) (PX (vals rs) o)) := by
    have e : PM2 ⟨[VL nl ex sz rs,IL nl' ex' sz' o],true⟩ [] [] = [⟨[VL nl ex sz rs,IL nl' ex' sz' o],true⟩] := rfl
    rw [e] at h
    simp only [PW,PX,vals_length]
    exact h
  simp only [share_division_pairs,share_division_pairs.B,exF_seq,exF_region,exF_block,exF_ret,runL,wantL,stepL,evL,evC,LEnv.at,putL,loadFine,loadL,cellsAt,Trk.putNew,Trk.up,Trk.touch,Trk.gives,Trk.calm,Trk.hit,opdsOf,Trk.fresh,LEnv.keep,LEnv.ofFrom,List.map_cons,List.map_nil,nbeq,nble,lenL,List.any_cons,List.any_nil,Bool.or_false,Bool.or_true,Bool.and_true,Bool.false_and,Bool.not_true,Bool.not_false,Nat.reduceEqDiff,decide_true,decide_false,cond_true,cond_false,List.filter_nil,Nat.reduceAdd,Nat.reduceLeDiff,reduceCtorEq,List.length_nil,List.length_cons,eq_self,retL,resultsL,resAllL,resOfL,List.nil_append,LV.cells,allocL,List.getElem?_cons_zero,List.take_zero,List.take_succ_cons,List.drop_zero,h2]
end Go.Am.Share
set_option linter.unusedVariables false
set_option linter.unusedSimpArgs false
set_option maxRecDepth 10000
namespace Go.Am.Share
structure In (rs : List Row) (nl' : Bool) (sz' : Nat) (o : List Int) : Prop where
  hl : rs.length < 1000000
  hr : ∀ r ∈ rs,r.l.length < 1000000
  ho : o.length < 1000000
  hsz : o = [] ∨ sz' = 1
  hnl : nl' = true → o = []
def fairV (V : List (List Int)) (o : List Int) : Int := if divE V o ≠ 0 then 0 else if PX V o ≠ [] then 0 else if PW V o ≠ [] then 1 else 2
theorem fairP_c (nl ex nl' ex' : Bool) (sz sz' : Nat) (rs : List Row) (o : List Int) (I : In rs nl' sz' o) (m : LMem) : clF LP n_share_Fair [VL nl ex sz rs,IL nl' ex' sz' o] m = some (.P,.tup [.int .i64 (fairV (vals rs) o),.int .i64 (divE (vals rs) o)],m) := by
  obtain ⟨h1,h2⟩ := opened_c nl ex nl' ex' sz sz' rs o I.hl I.hr I.ho I.hsz I.hnl []
  by_cases hd : divE (vals rs) o = 0
  · obtain ⟨nl2,ex2,sz2,h3,_⟩ := h2 hd
    refine call_P lp_share_Fair rfl (by simp [LV.pures,LV.pure]) (m1 := [⟨[VL nl ex sz rs,IL nl2 ex2 sz2 o],true⟩]) ?_ (by simp [LV.pures,LV.pure]) m
    have hp := pairs_c nl ex nl2 ex2 sz sz2 (dok_of hd)
    by_cases hX : PX (vals rs) o = []
    · have hx0 : (PX (vals rs) o).length = 0 := by rw [hX]; rfl
      by_cases hW : PW (vals rs) o = []
      · have hw0 : (PW (vals rs) o).length = 0 := by rw [hW]; rfl
        simp only [share_Fair,share_Fair.B,exF_seq,exF_region,exF_block,exF_cond,exF_ret,exF_skip,runL,wantL,stepL,evL,evC,LEnv.at,putL,loadFine,loadL,cellsAt,Trk.calm,Trk.hit,LEnv.keep,LEnv.ofFrom,List.map_cons,List.map_nil,nbeq,nble,ofAV,ofAVs,bin_neq,List.any_nil,Bool.or_false,Bool.or_true,Bool.and_true,Bool.false_and,Bool.not_true,Bool.not_false,Nat.reduceEqDiff,decide_true,decide_false,cond_true,cond_false,Nat.reduceAdd,Nat.reduceLeDiff,reduceCtorEq,List.length_nil,List.length_cons,if_false,eq_self,retL,resultsL,resAllL,resOfL,List.append_nil,List.nil_append,not_true_eq_false,ne_eq,LV.cells,allocL,List.getElem?_cons_zero,List.getElem?_cons_succ,storeL,spliceL,List.take_zero,List.take_succ_cons,List.drop_zero,List.drop_succ_cons,List.drop_nil,List.take_nil,Nat.le_refl,List.set_cons_zero,LV.scalar,List.all_cons,List.all_nil,h3,hp,fairV,hd,nilOf,eqsL,hX,hW,Bool.xor_true]
      · have hw0 : ¬ (PW (vals rs) o).length = 0 := by simpa using hW
        simp only [share_Fair,share_Fair.B,exF_seq,exF_region,exF_block,exF_cond,exF_ret,exF_skip,runL,wantL,stepL,evL,evC,LEnv.at,putL,loadFine,loadL,cellsAt,Trk.calm,Trk.hit,LEnv.keep,LEnv.ofFrom,List.map_cons,List.map_nil,nbeq,nble,ofAV,ofAVs,bin_neq,List.any_nil,Bool.or_false,Bool.or_true,Bool.and_true,Bool.false_and,Bool.not_true,Bool.not_false,Nat.reduceEqDiff,decide_true,decide_false,cond_true,cond_false,Nat.reduceAdd,Nat.reduceLeDiff,reduceCtorEq,List.length_nil,List.length_cons,if_true,if_false,eq_self,retL,resultsL,resAllL,resOfL,List.append_nil,List.nil_append,not_true_eq_false,not_false_eq_true,ne_eq,LV.cells,allocL,List.getElem?_cons_zero,List.getElem?_cons_succ,storeL,spliceL,List.take_zero,List.take_succ_cons,List.drop_zero,List.drop_succ_cons,List.drop_nil,List.take_nil,Nat.le_refl,List.set_cons_zero,LV.scalar,List.all_cons,List.all_nil,h3,hp,fairV,hd,nilOf,eqsL,hw0,hX,hW,Bool.xor_true,Bool.true_xor]
    · have hx0 : ¬ (PX (vals rs) o).length = 0 := by simpa using hX
      simp only [share_Fair,share_Fair.B,exF_seq,exF_region,exF_block,exF_cond,exF_ret,exF_skip,runL,wantL,stepL,evL,evC,LEnv.at,putL,loadFine,loadL,cellsAt,Trk.calm,Trk.hit,LEnv.keep,LEnv.ofFrom,List.map_cons,List.map_nil,nbeq,nble,ofAV,ofAVs,bin_neq,List.any_nil,Bool.or_false,Bool.or_true,Bool.and_true,Bool.false_and,Bool.not_true,Bool.not_false,Nat.reduceEqDiff,decide_true,decide_false,cond_true,cond_false,Nat.reduceAdd,Nat.reduceLeDiff,reduceCtorEq,List.length_nil,List.length_cons,if_true,if_false,eq_self,retL,resultsL,resAllL,resOfL,List.append_nil,List.nil_append,not_true_eq_false,not_false_eq_true,ne_eq,LV.cells,allocL,List.getElem?_cons_zero,List.getElem?_cons_succ,storeL,spliceL,List.take_zero,List.take_succ_cons,List.drop_zero,List.drop_succ_cons,List.drop_nil,List.take_nil,Nat.le_refl,List.set_cons_zero,LV.scalar,List.all_cons,List.all_nil,h3,hp,fairV,hd,nilOf,eqsL,hx0,hX,Bool.true_xor]
  · have h1 := h1 hd
    refine call_P lp_share_Fair rfl (by simp [LV.pures,LV.pure]) (m1 := [⟨[LNIL,LNIL],true⟩]) ?_ (by simp [LV.pures,LV.pure]) m
    simp only [share_Fair,share_Fair.B,exF_seq,exF_region,exF_cond,exF_ret,runL,wantL,stepL,evL,evC,LEnv.at,putL,loadFine,LEnv.keep,LEnv.ofFrom,List.map_cons,List.map_nil,nbeq,nble,ofAV,ofAVs,bin_neq,Bool.and_true,Nat.reduceEqDiff,decide_true,decide_false,cond_true,cond_false,Nat.reduceAdd,reduceCtorEq,List.length_nil,List.length_cons,if_true,eq_self,retL,resultsL,resAllL,resOfL,List.append_nil,List.nil_append,not_false_eq_true,ne_eq,LV.cells,allocL,List.getElem?_cons_zero,List.getElem?_cons_succ,storeL,spliceL,List.take_zero,List.drop_succ_cons,List.drop_nil,Nat.le_refl,List.set_cons_zero,LV.scalar,List.all_cons,List.all_nil,h1,fairV,hd]
end Go.Am.Share
