import Derived.Test.YtcckhkcchpfdoaaShareC14
import Derived.Test.YtcckhkcchpfdoaaShareC6
set_option linter.unusedVariables false
set_option linter.unusedSimpArgs false
set_option maxRecDepth 10000
namespace Go.Am
theorem view_slp (m : LMem) (i : Nat) (o : List Int) (b : Bool) (e : Int) (h : m[i]? = some ⟨o.map (LV.int .i64),b⟩) : view 100 m (.tup [.sl i 0 o.length o.length 0 1 o.length,.int .i64 e]) = some (.tup [IL false true 1 o,.int .i64 e],[i]) := by
  have h2 : ((o.map (LV.int .i64)).drop 0).take (o.length * 1) = o.map (LV.int .i64) := by rw [List.drop_zero,List.take_of_length_le (by simp)]
  have v1 : ∀ k,view (k + 3) m (.sl i 0 o.length o.length 0 1 o.length) = some (IL false true 1 o,[i]) := fun k => by
    simp only [view,h,h2,viewL_pures _ _ _ (pures_int .i64 o)]
    simp [nble]
  have hnp : LV.pures [.sl i 0 o.length o.length 0 1 o.length,.int .i64 e] = false := by simp [LV.pures,LV.pure]
  rw [view.eq_def]
  simp only
  rw [viewL.eq_def]
  simp only [hnp,cond_false]
  rw [viewC.eq_def]
  simp only [v1 94]
  rw [viewC.eq_def]
  simp only [view_pure 94 _ (.int .i64 e) rfl]
  rw [viewC.eq_def]
  rfl
namespace Share
def tstep (V : List (List Int)) (o : List Int) (w : Int) : List Int := o.set (pk (V.getD w.toNat []) o 0 (0,-1)).1 w
def trn (V : List (List Int)) (ord : List Int) : Nat → Nat → List Int → List Int
  | 0,_,o => o
  | n + 1,t,o => trn V ord n (t + 1) (tstep V o (ord.getD (t % ord.length) 0))
theorem tstep_length (V : List (List Int)) (o : List Int) (w : Int) : (tstep V o w).length = o.length := by simp [tstep]
theorem trn_length (V : List (List Int)) (ord : List Int) (n : Nat) : ∀ (t : Nat) (o : List Int),(trn V ord n t o).length = o.length := by
  induction n with
  | zero => intro t o; rfl
  | succ n ih => intro t o; rw [trn,ih,tstep_length]
structure VOk (rs : List Row) (L : Nat) : Prop where
  pos : 0 < rs.length
  le4 : rs.length ≤ 4
  len : ∀ i (h : i < rs.length),rs[i].l.length = L
  ok : ∀ i (h : i < rs.length),Ok20 rs[i].l
  le6 : L ≤ 6
theorem vok_of {rs : List Row} (h : chkV (vals rs) = 0) : VOk rs ((vals rs).getD 0 []).length := by
  obtain ⟨k1,k2,k3,k4⟩ := chkV_ok h
  rw [vals_length] at k1 k2
  have hrow : ∀ i (h : i < rs.length),rs[i].l ∈ vals rs := fun i h => List.mem_map.2 ⟨rs[i],List.getElem_mem h,rfl⟩
  exact ⟨k1,k2,fun i hi => (k4 _ (hrow i hi)).1,fun i hi => (k4 _ (hrow i hi)).2,by omega⟩
theorem turnP_outer (nl ex nl' ex' : Bool) (sz : Nat) {rs : List Row} {L : Nat} (D : VOk rs L) (ord : List Int) (hol : 0 < ord.length) (hoq : ord.length < 1000000) (hor : ∀ x ∈ ord,0 ≤ x ∧ x < rs.length) (n : Nat) : ∀ (t : Nat) (o : List Int),t + n = L → o.length = L →
    exF LP share_Turns.L2 [(0,VL nl ex sz rs),(1,IL nl' ex' 1 ord),(9,.ptr 2 0 2),(53,.int .i64 (L : Int)),(54,.int .i64 (t : Int))] (TM (VL nl ex sz rs) o) =
      some (.exit 4,[(9,.ptr 2 0 2)],TM (VL nl ex sz rs) (trn (vals rs) ord n t o)) := by
  have h6 := D.le6
  induction n with
  | zero =>
    intro t o ht ho
    rw [share_Turns.L2_eq]
    simp only [share_Turns.B2,exF_seq,exF_region,exF_cond,exF_exit,runL,wantL,stepL,evL,LEnv.at,putL,loadFine,LEnv.keep,List.map_cons,List.map_nil,nbeq,bin_lss,Nat.reduceEqDiff,decide_true,decide_false,cond_true,cond_false,reduceCtorEq,eq_self,show ¬ ((t : Int) < (L : Int)) by omega,trn]
  | succ n ih =>
    intro t o ht ho
    have ht2 : (t : Int) < (L : Int) := by omega
    have hm : t % ord.length < ord.length := Nat.mod_lt _ hol
    have hne : ((ord.length : Nat) : Int) ≠ 0 := by omega
    obtain ⟨w1,w2⟩ := hor _ (List.getElem_mem hm)
    obtain ⟨w,hw⟩ := Int.eq_ofNat_of_zero_le w1
    have hw2 : w < rs.length := by omega
    have hg : ord.getD (t % ord.length) 0 = (w : Int) := by rw [← hw]; simp [List.getD_eq_getElem?_getD,hm]
    have hin := turnP_inner nl ex nl' ex' sz rs ord w hw2 o (by rw [D.len w hw2,ho]) (by omega) (L : Int) (w : Int) (t : Int) o.length 0 (0,-1) (by omega)
    have hb := pk_lt rs[w].l o 0 (0,-1) o.length (by omega) (by simp; omega)
    rw [trn,hg]
    unfold tstep
    rw [Int.toNat_natCast,vals_at rs w hw2]
    simp only [Int.natCast_zero,List.drop_zero] at hin
    have hrl : rs[w].l.length = o.length := by rw [D.len w hw2,ho]
    generalize (pk rs[w].l o 0 (0,-1)).1 = b at *
    have ih := ih (t + 1) (o.set b w) (by omega) (by simpa using ho)
    have hbL : b < L := by omega
    have hs : (o.set b (w : Int)).length = L := by simp [ho]
    simp only [TM,hs] at ih
    simp only [TM,ho] at hin
    rw [ho] at hrl
    rw [share_Turns.L2_eq]
    simp only [TM,share_Turns.B2,exF_seq,exF_region,exF_block,exF_cond,exF_skip,runL,wantL,stepL,evL,evC,LEnv.at,putL,loadFine,loadL,cellsAt,Trk.putNew,Trk.up,Trk.touch,Trk.gives,Trk.calm,Trk.hit,opdsOf,Trk.fresh,LEnv.keep,List.map_cons,List.map_nil,nbeq,nble,nblt,lenL,bin_add,bin_lss,natL_nat,List.any_cons,List.any_nil,Bool.or_false,Bool.or_true,Bool.and_true,Bool.false_and,Bool.not_true,Bool.not_false,Nat.reduceEqDiff,decide_true,decide_false,cond_true,cond_false,List.filter_nil,Nat.reduceAdd,Nat.reduceLeDiff,reduceCtorEq,List.length_nil,List.length_cons,Nat.mul_one,eq_self,LV.cells,List.getElem?_cons_zero,List.getElem?_cons_succ,storeL,spliceL,List.take_succ_cons,List.drop_zero,List.drop_succ_cons,List.take_nil,Nat.le_refl,List.set_cons_zero,List.set_cons_succ,LV.scalar,List.all_cons,List.all_nil,ht2,bin_rem _ _ _ hne,tmod_nat,hm,int_at _ _ _ hm,hw,hw2,row_at _ _ hw2,hrl,hin,ho,Nat.zero_add,hbL,List.length_map,set_int _ _ _ _ hb,show b + 1 ≤ L by omega,wrap_succ (show t + 1 < 9223372036854775808 by omega),ih]
theorem zeros_int (n : Nat) : zerosL [.int .i64 0] n = (List.replicate n (0 : Int)).map (LV.int .i64) := by
  unfold zerosL
  apply List.ext_getElem (by simp)
  intro i h1 h2
  simp [Nat.mod_one]
def turnE (V : List (List Int)) (ord : List Int) : Int := if chkV V ≠ 0 then chkV V else if ord.length ≠ V.length then 5 else ordE (V.length : Int) [] ord
def turnV (V : List (List Int)) (ord : List Int) : List Int := if turnE V ord = 0 then trn V ord (V.getD 0 []).length 0 (nones (V.getD 0 []).length) else []
abbrev RT (e : Int) (o : List Int) : LV := .tup [IL (decide (e ≠ 0)) true (cond (decide (e ≠ 0)) 0 1) o,.int .i64 e]
theorem RT_err (e : Int) (h : e ≠ 0) : some (RT e [],([] : LMem)) = some (.tup [.lst true true 0 0 [],.int .i64 e],[]) := by simp [h]
theorem ordE_ok (N : Int) : ∀ (l pre : List Int),ordE N pre l = 0 → ∀ x ∈ l,0 ≤ x ∧ x < N
  | [],pre,_,x,hx => by cases hx
  | a :: r,pre,h,x,hx => by
    rw [ordE] at h
    split at h
    · cases h
    · rename_i h1
      split at h
      · cases h
      · rcases List.mem_cons.1 hx with c | c
        · subst c
          simp [inB] at h1
          omega
        · exact ordE_ok N r _ h x c
theorem turnsP_c (nl ex nl' ex' : Bool) (sz sz' : Nat) (rs : List Row) (o : List Int) (I : In rs nl' sz' o) (m : LMem) : clF LP n_share_Turns [VL nl ex sz rs,IL nl' ex' sz' o] m = some (.P,RT (turnE (vals rs) o) (turnV (vals rs) o),m) := by
  have hc := fun m => check_c nl ex sz rs I.hl I.hr m
  unfold turnV turnE
  rw [vals_length]
  by_cases h1 : chkV (vals rs) = 0
  · have D := vok_of h1
    obtain ⟨k1,k2,k3,k4,k5⟩ := D
    rw [vals0 rs k1] at *
    rw [if_neg (by simpa using h1)]
    by_cases h2 : o.length = rs.length
    · have h2' : ((o.length : Int) = rs.length) := by omega
      rw [if_neg (by simpa using h2)]
      have hne : o ≠ [] := by intro c; subst c; simp at h2; omega
      obtain rfl : sz' = 1 := by rcases I.hsz with c | c; exact absurd c hne; exact c
      have hl := ordP_loop nl ex nl' ex' sz rs o ⟨k1,I.hl⟩ I.ho o.length 0 (by omega)
      simp only [Int.natCast_zero,List.drop_zero,List.take_zero,h2'] at hl
      by_cases h3 : ordE (rs.length : Int) [] o = 0
      · rw [if_pos h3] at hl
        rw [if_pos h3]
        have he := fun m => empty_c nl ex sz rs k1 k5 m
        have ht := turnP_outer nl ex nl' ex' sz (L := rs[0].l.length) ⟨k1,k2,k3,k4,k5⟩ o (by omega) I.ho (ordE_ok _ _ _ h3) rs[0].l.length 0 (nones rs[0].l.length) (by omega) (by simp [nones])
        have hn : (nones rs[0].l.length).length = rs[0].l.length := by simp [nones]
        have htl : (trn (vals rs) o rs[0].l.length 0 (nones rs[0].l.length)).length = rs[0].l.length := by rw [trn_length,hn]
        simp only [TM,hn,htl,Int.natCast_zero] at ht
        have hv := view_slp [⟨[VL nl ex sz rs,SLo 1 rs[0].l.length],true⟩,⟨(trn (vals rs) o rs[0].l.length 0 (nones rs[0].l.length)).map (LV.int .i64),true⟩,⟨[VL nl ex sz rs,SLo 1 rs[0].l.length],true⟩] 1 (trn (vals rs) o rs[0].l.length 0 (nones rs[0].l.length)) true 0 rfl
        rw [htl] at hv
        generalize trn (vals rs) o rs[0].l.length 0 (nones rs[0].l.length) = r at *
        rw [h3]
        refine call_Pv lp_share_Turns rfl (by simp [LV.pures,LV.pure]) ?_ hv m
        simp only [share_Turns,share_Turns.B,exF_seq,exF_region,exF_block,exF_cond,exF_ret,exF_skip,runL,wantL,stepL,evL,evC,LEnv.at,putL,loadFine,loadL,cellsAt,Trk.putNew,Trk.up,Trk.touch,Trk.gives,Trk.calm,Trk.hit,opdsOf,Trk.fresh,LEnv.keep,LEnv.ofFrom,List.map_cons,List.map_nil,nbeq,nble,ofAV,ofAVs,lenL,bin_neq,List.any_cons,List.any_nil,Bool.or_false,Bool.or_true,Bool.and_true,Bool.false_and,Bool.not_true,Bool.not_false,Nat.reduceEqDiff,decide_true,decide_false,cond_true,cond_false,List.filter_nil,Nat.reduceAdd,Nat.reduceLeDiff,reduceCtorEq,List.length_nil,List.length_cons,eq_self,retL,resultsL,resAllL,resOfL,List.append_nil,List.nil_append,List.cons_append,not_true_eq_false,ne_eq,LV.cells,allocL,List.getElem?_cons_zero,List.getElem?_cons_succ,storeL,spliceL,List.take_zero,List.take_succ_cons,List.drop_zero,List.drop_succ_cons,List.drop_nil,List.take_nil,Nat.le_refl,List.set_cons_zero,List.set_cons_succ,LV.scalar,List.all_cons,List.all_nil,hc,h1,h2',hl,he,ht,Nat.zero_add]
      · rw [if_neg h3] at hl
        rw [if_neg h3]
        have hd : decide (ordE (rs.length : Int) [] o ≠ 0) = true := by simpa using h3
        refine call_P lp_share_Turns rfl (by simp [LV.pures,LV.pure]) (m1 := []) ?_ (by simp [LV.pures,LV.pure]) m
        simp only [share_Turns,share_Turns.B,exF_seq,exF_region,exF_block,exF_cond,exF_skip,runL,wantL,stepL,evL,evC,LEnv.at,putL,loadFine,LEnv.keep,LEnv.ofFrom,List.map_cons,List.map_nil,nbeq,ofAVs,lenL,bin_neq,Nat.reduceEqDiff,decide_true,decide_false,cond_true,cond_false,Nat.reduceAdd,reduceCtorEq,eq_self,retL,resultsL,resAllL,resOfL,List.append_nil,List.nil_append,not_true_eq_false,ne_eq,hc,h1,h2',hl]
        rw [RT_err _ h3]
    · have h2' : ¬ ((o.length : Int) = rs.length) := by omega
      rw [if_pos (by simpa using h2)]
      refine call_P lp_share_Turns rfl (by simp [LV.pures,LV.pure]) (m1 := []) ?_ (by simp [LV.pures,LV.pure]) m
      simp only [share_Turns,share_Turns.B,exF_seq,exF_region,exF_block,exF_cond,exF_ret,runL,wantL,stepL,evL,evC,LEnv.at,putL,loadFine,LEnv.keep,LEnv.ofFrom,List.map_cons,List.map_nil,nbeq,ofAVs,lenL,bin_neq,Nat.reduceEqDiff,decide_true,decide_false,cond_true,cond_false,Nat.reduceAdd,reduceCtorEq,if_false,eq_self,retL,resultsL,resAllL,resOfL,List.append_nil,List.nil_append,not_true_eq_false,not_false_eq_true,ne_eq,Int.reduceEq,hc,h1,h2']
      rw [RT_err _ (by omega)]
  · rw [if_pos (by simpa using h1)]
    refine call_P lp_share_Turns rfl (by simp [LV.pures,LV.pure]) (m1 := []) ?_ (by simp [LV.pures,LV.pure]) m
    simp only [share_Turns,share_Turns.B,exF_seq,exF_region,exF_block,exF_cond,exF_ret,runL,wantL,stepL,evL,evC,LEnv.at,putL,loadFine,LEnv.keep,LEnv.ofFrom,List.map_cons,List.map_nil,nbeq,ofAVs,bin_neq,Nat.reduceEqDiff,decide_true,decide_false,cond_true,cond_false,Nat.reduceAdd,reduceCtorEq,if_false,eq_self,retL,resultsL,resAllL,resOfL,List.append_nil,List.nil_append,not_false_eq_true,ne_eq,hc,h1]
    rw [RT_err _ h1]
end Share
end Go.Am
set_option linter.unusedVariables false
set_option linter.unusedSimpArgs false
namespace Go.Am.Share
def fstI (P : Nat → Bool) : Nat → Nat → Int
  | 0,_ => -1
  | n + 1,k => if P k then (k : Int) else fstI P n (k + 1)
theorem fstI_cases (P : Nat → Bool) : ∀ (n k : Nat),(fstI P n k = -1 ∧ ∀ i,k ≤ i → i < k + n → P i = false) ∨ (∃ i : Nat,fstI P n k = (i : Int) ∧ k ≤ i ∧ i < k + n ∧ P i = true)
  | 0,k => .inl ⟨rfl,fun i h1 h2 => by omega⟩
  | n + 1,k => by
    rw [fstI]
    by_cases h : P k = true
    · rw [if_pos h]
      exact .inr ⟨k,rfl,by omega,by omega,h⟩
    · rw [if_neg h]
      rcases fstI_cases P n (k + 1) with ⟨a,b⟩ | ⟨i,a,b,c,d⟩
      · refine .inl ⟨a,fun i h1 h2 => ?_⟩
        by_cases hik : i = k
        · subst hik; simpa using h
        · exact b i (by omega) (by omega)
      · exact .inr ⟨i,a,by omega,by omega,d⟩
def enI (V : List (List Int)) (o : List Int) (j : Nat) : Int := fstI (fun i => decide (0 < eW V o i j)) V.length 0
def calmI (V : List (List Int)) (o : List Int) : Int := fstI (fun j => decide (enI V o j = -1)) V.length 0
theorem enI_ok {V : List (List Int)} {o : List Int} (h : calmI V o = -1) {j : Int} (h0 : 0 ≤ j) (hj : j < V.length) : 0 ≤ enI V o j.toNat ∧ enI V o j.toNat < V.length ∧ 0 < eW V o (enI V o j.toNat).toNat j.toNat := by
  rcases fstI_cases (fun j => decide (enI V o j = -1)) V.length 0 with ⟨_,b⟩ | ⟨i,a,_⟩
  · have := b j.toNat (by omega) (by omega)
    simp only [decide_eq_false_iff_not] at this
    rcases fstI_cases (fun i => decide (0 < eW V o i j.toNat)) V.length 0 with ⟨a,_⟩ | ⟨i,a,b,c,d⟩
    · exact absurd a this
    · have e : enI V o j.toNat = (i : Int) := a
      rw [e,Int.toNat_natCast]
      exact ⟨by omega,by omega,by simpa using d⟩
  · unfold calmI at h; omega
def wlk (e : Int → Int) : Nat → List Int → Int → List Int × Int
  | 0,l,w => (l,w)
  | n + 1,l,w => if w ∈ l then (l,w) else wlk e n (l ++ [w]) (e w)
def ringOf (w : Int) : List Int → List Int
  | [] => []
  | a :: r => if a = w then a :: r else ringOf w r
theorem nodup_le : ∀ (N : Nat) (l : List Int),l.Nodup → (∀ x ∈ l,0 ≤ x ∧ x < (N : Int)) → l.length ≤ N
  | 0,l,_,h => by
    cases l with
    | nil => simp
    | cons a r => have := h a (by simp); omega
  | N + 1,l,hn,h => by
    by_cases hm : (N : Int) ∈ l
    · have h1 := List.length_erase_of_mem hm
      have h2 := nodup_le N (l.erase (N : Int)) (hn.erase _) (fun x hx => by
        rw [hn.mem_erase_iff] at hx
        have := h x hx.2
        have := hx.1
        omega)
      omega
    · have h2 := nodup_le N l hn (fun x hx => by
        have := h x hx
        have : x ≠ N := fun c => hm (c ▸ hx)
        omega)
      omega
structure WOk (e : Int → Int) (N : Nat) (l : List Int) (w : Int) : Prop where
  nd : l.Nodup
  rng : ∀ x ∈ l,0 ≤ x ∧ x < (N : Int)
  w0 : 0 ≤ w ∧ w < (N : Int)
  chain : ∀ i,i + 1 < l.length → l.getD (i + 1) 0 = e (l.getD i 0)
  last : l ≠ [] → w = e (l.getD (l.length - 1) 0)
theorem WOk.step {e : Int → Int} {N : Nat} (he : ∀ x,0 ≤ x → x < (N : Int) → 0 ≤ e x ∧ e x < (N : Int)) {l : List Int} {w : Int} (H : WOk e N l w) (hw : ¬ w ∈ l) : WOk e N (l ++ [w]) (e w) := by
  refine ⟨?_,?_,he w H.w0.1 H.w0.2,?_,?_⟩
  · rw [List.nodup_append]
    refine ⟨H.nd,by simp,?_⟩
    intro a ha b hb
    simp at hb
    subst hb
    intro c; subst c; exact hw ha
  · intro x hx
    rcases List.mem_append.1 hx with c | c
    · exact H.rng x c
    · simp at c; subst c; exact H.w0
  · intro i hi
    simp only [List.length_append,List.length_cons,List.length_nil] at hi
    by_cases h2 : i + 1 < l.length
    · have := H.chain i h2
      simp only [List.getD_eq_getElem?_getD] at this ⊢
      rw [List.getElem?_append_left h2,List.getElem?_append_left (by omega)]
      exact this
    · have h3 : i + 1 = l.length := by omega
      have hne : l ≠ [] := by intro c; subst c; simp at h3
      have := H.last hne
      simp only [List.getD_eq_getElem?_getD] at this ⊢
      rw [List.getElem?_append_left (show i < l.length by omega),List.getElem?_append_right (by omega),h3]
      simp only [Nat.sub_self,List.getElem?_cons_zero,Option.getD_some]
      rw [this]
      rw [show l.length - 1 = i by omega]
  · intro _
    simp [List.getD_eq_getElem?_getD]
theorem wlk_ok {e : Int → Int} {N : Nat} (he : ∀ x,0 ≤ x → x < (N : Int) → 0 ≤ e x ∧ e x < (N : Int)) : ∀ (n : Nat) (l : List Int) (w : Int),WOk e N l w → N + 1 ≤ l.length + n → WOk e N (wlk e n l w).1 (wlk e n l w).2 ∧ (wlk e n l w).2 ∈ (wlk e n l w).1
  | 0,l,w,H,h => by
    have := nodup_le N l H.nd H.rng
    omega
  | n + 1,l,w,H,h => by
    rw [wlk]
    by_cases hw : w ∈ l
    · rw [if_pos hw]; exact ⟨H,hw⟩
    · rw [if_neg hw]
      exact wlk_ok he n _ _ (H.step he hw) (by simp; omega)
structure ROk (e : Int → Int) (N : Nat) (l : List Int) : Prop where
  ne : l ≠ []
  nd : l.Nodup
  rng : ∀ x ∈ l,0 ≤ x ∧ x < (N : Int)
  nxt : ∀ i,i < l.length → l.getD ((i + 1) % l.length) 0 = e (l.getD i 0)
theorem ringOf_suffix (w : Int) : ∀ (l : List Int),∃ p,l = p ++ ringOf w l
  | [] => ⟨[],rfl⟩
  | a :: r => by
    rw [ringOf]
    split
    · exact ⟨[],rfl⟩
    · obtain ⟨p,hp⟩ := ringOf_suffix w r
      exact ⟨a :: p,by rw [List.cons_append,← hp]⟩
theorem ringOf_head (w : Int) : ∀ (l : List Int),w ∈ l → ∃ t,ringOf w l = w :: t
  | [],h => by cases h
  | a :: r,h => by
    rw [ringOf]
    by_cases c : a = w
    · rw [if_pos c,c]; exact ⟨r,rfl⟩
    · rw [if_neg c]
      rcases List.mem_cons.1 h with d | d
      · exact absurd d.symm c
      · exact ringOf_head w r d
theorem ring_ok {e : Int → Int} {N : Nat} {l : List Int} {w : Int} (H : WOk e N l w) (hw : w ∈ l) : ROk e N (ringOf w l) := by
  obtain ⟨p,hp⟩ := ringOf_suffix w l
  obtain ⟨t,ht⟩ := ringOf_head w l hw
  have hl : (ringOf w l).length ≠ 0 := by rw [ht]; simp
  have hll : l.length = p.length + (ringOf w l).length := by rw [← List.length_append,← hp]
  have hg : ∀ i,i < (ringOf w l).length → (ringOf w l).getD i 0 = l.getD (p.length + i) 0 := fun i hi => by
    have : l[p.length + i]? = (ringOf w l)[i]? := by
      conv => lhs; rw [hp]
      rw [List.getElem?_append_right (by omega)]
      congr 1; omega
    rw [List.getD_eq_getElem?_getD,List.getD_eq_getElem?_getD,this]
  refine ⟨by rw [ht]; simp,?_,?_,?_⟩
  · have := H.nd
    rw [hp,List.nodup_append] at this
    exact this.2.1
  · intro x hx
    exact H.rng x (by rw [hp]; exact List.mem_append_right _ hx)
  · intro i hi
    by_cases h2 : i + 1 < (ringOf w l).length
    · rw [Nat.mod_eq_of_lt h2,hg _ h2,hg _ hi]
      exact H.chain (p.length + i) (by omega)
    · have h3 : i + 1 = (ringOf w l).length := by omega
      rw [h3,Nat.mod_self,hg i hi]
      have h4 := H.last (by intro c; rw [c] at hw; cases hw)
      rw [show p.length + i = l.length - 1 by omega,← h4,ht]
      rfl
def nxI (ring : List Int) (x : Int) : Int := if x ∈ ring then ring.getD ((ring.idxOf x + 1) % ring.length) 0 else x
def turnedBy (ring o : List Int) : List Int := o.map (nxI ring)
def ringI (V : List (List Int)) (o : List Int) : List Int :=
  ringOf (wlk (fun x => enI V o x.toNat) (V.length + 1) [] 0).2 (wlk (fun x => enI V o x.toNat) (V.length + 1) [] 0).1
def turnI (V : List (List Int)) (o : List Int) : List Int := turnedBy (ringI V o) o
theorem ringI_ok {V : List (List Int)} {o : List Int} (hV : 0 < V.length) (h : calmI V o = -1) : ROk (fun x => enI V o x.toNat) V.length (ringI V o) := by
  have he : ∀ x,0 ≤ x → x < (V.length : Int) → 0 ≤ enI V o x.toNat ∧ enI V o x.toNat < (V.length : Int) := fun x h0 h1 => by
    have := enI_ok h h0 h1
    exact ⟨this.1,this.2.1⟩
  have H : WOk (fun x => enI V o x.toNat) V.length [] 0 := ⟨by simp,by simp,by omega,by simp,by simp⟩
  have := wlk_ok he (V.length + 1) [] 0 H (by simp)
  exact ring_ok this.1 this.2
theorem ws_congr (f : Int → Int) (a b : Int) : ∀ (r o : List Int) (w : Int),(∀ x ∈ o,f x = a ↔ x = b) → ws a r (o.map f) w = ws b r o w
  | [],o,w,_ => by simp [ws]
  | r :: rs,[],w,_ => by simp [ws]
  | r :: rs,x :: os,w,h => by
    rw [List.map_cons,ws,ws]
    have h1 := h x (by simp)
    have h2 : (if f x = a then w + r else w) = (if x = b then w + r else w) := by
      by_cases c : x = b
      · rw [if_pos c,if_pos (h1.2 c)]
      · rw [if_neg c,if_neg (fun d => c (h1.1 d))]
    rw [h2]
    exact ws_congr f a b rs os _ (fun y hy => h y (by simp [hy]))
def sumN (f : Nat → Int) : Nat → Int
  | 0 => 0
  | n + 1 => sumN f n + f n
theorem sumN_le (f g : Nat → Int) : ∀ (n : Nat),(∀ i,i < n → f i ≤ g i) → sumN f n ≤ sumN g n
  | 0,_ => by simp [sumN]
  | n + 1,h => by
    have := sumN_le f g n (fun i hi => h i (by omega))
    have := h n (by omega)
    simp only [sumN]; omega
theorem sumN_lt (f g : Nat → Int) : ∀ (n : Nat),(∀ i,i < n → f i ≤ g i) → (∃ i,i < n ∧ f i < g i) → sumN f n < sumN g n
  | 0,_,⟨i,hi,_⟩ => by omega
  | n + 1,h,⟨i,hi,hlt⟩ => by
    have h2 := h n (by omega)
    simp only [sumN]
    by_cases c : i = n
    · subst c
      have := sumN_le f g i (fun j hj => h j (by omega))
      omega
    · have := sumN_lt f g n (fun j hj => h j (by omega)) ⟨i,by omega,hlt⟩
      omega
def ownS (V : List (List Int)) (o : List Int) : Int := sumN (fun i => ws (i : Int) (V.getD i []) o 0) V.length
theorem idx_lt {l : List Int} {x : Int} (h : x ∈ l) : l.idxOf x < l.length := List.idxOf_lt_length_of_mem h
theorem getD_idx {l : List Int} {x : Int} (h : x ∈ l) : l.getD (l.idxOf x) 0 = x := by
  rw [List.getD_eq_getElem?_getD,List.getElem?_eq_getElem (idx_lt h)]
  simp
theorem getD_mem {l : List Int} {i : Nat} (h : i < l.length) : l.getD i 0 ∈ l := by
  rw [List.getD_eq_getElem?_getD,List.getElem?_eq_getElem h]
  simp
theorem getD_inj {l : List Int} (hn : l.Nodup) {i j : Nat} (hi : i < l.length) (hj : j < l.length) (h : l.getD i 0 = l.getD j 0) : i = j := by
  rw [List.getD_eq_getElem?_getD,List.getD_eq_getElem?_getD,List.getElem?_eq_getElem hi,List.getElem?_eq_getElem hj] at h
  exact (List.getElem_inj hn).1 (by simpa using h)
theorem mod_pred {i n : Nat} (h : i < n) : ∃ j,j < n ∧ (j + 1) % n = i := by
  cases i with
  | zero => exact ⟨n - 1,by omega,by rw [show n - 1 + 1 = n by omega,Nat.mod_self]⟩
  | succ k => exact ⟨k,by omega,Nat.mod_eq_of_lt h⟩
theorem mod_inj {i j n : Nat} (hi : i < n) (hj : j < n) (h : (i + 1) % n = (j + 1) % n) : i = j := by
  by_cases a : i + 1 < n
  · rw [Nat.mod_eq_of_lt a] at h
    by_cases b : j + 1 < n
    · rw [Nat.mod_eq_of_lt b] at h; omega
    · rw [show j + 1 = n by omega,Nat.mod_self] at h; omega
  · rw [show i + 1 = n by omega,Nat.mod_self] at h
    by_cases b : j + 1 < n
    · rw [Nat.mod_eq_of_lt b] at h; omega
    · omega
theorem ownS_lt {V : List (List Int)} {o : List Int} (hV : 0 < V.length) (h : calmI V o = -1) : ownS V o < ownS V (turnI V o) := by
  have R := ringI_ok hV h
  unfold turnI turnedBy
  generalize ringI V o = g at *
  have hlen : 0 < g.length := by have := R.ne; cases g with | nil => exact absurd rfl this | cons a r => simp
  -- one in the ring has the share of who comes before
  have key : ∀ x,x ∈ g → 0 ≤ x ∧ x < V.length ∧ ws x (V.getD x.toNat []) o 0 < ws x (V.getD x.toNat []) (o.map (nxI g)) 0 := fun x hx => by
    obtain ⟨j,hj,hj2⟩ := mod_pred (idx_lt hx)
    have hy := getD_mem hj
    have hxe := R.nxt j hj
    rw [hj2,getD_idx hx] at hxe
    have ry := R.rng _ hy
    have rx := R.rng _ hx
    refine ⟨rx.1,rx.2,?_⟩
    rw [ws_congr (nxI g) x (g.getD j 0) _ o 0 ?_]
    · have := (enI_ok h ry.1 ry.2).2.2
      have hxe2 : x = enI V o (g.getD j 0).toNat := hxe
      rw [← hxe2] at this
      unfold eW at this
      rw [Int.toNat_of_nonneg ry.1,Int.toNat_of_nonneg rx.1] at this
      omega
    · intro z _
      unfold nxI
      by_cases hz : z ∈ g
      · rw [if_pos hz]
        constructor
        · intro c
          have c2 : g.getD ((g.idxOf z + 1) % g.length) 0 = g.getD (g.idxOf x) 0 := by rw [c,getD_idx hx]
          have c3 := getD_inj R.nd (Nat.mod_lt _ hlen) (idx_lt hx) c2
          rw [← hj2] at c3
          have c4 := mod_inj (idx_lt hz) hj c3
          rw [← c4,getD_idx hz]
        · intro c
          have c2 : g.idxOf z = j := getD_inj R.nd (idx_lt hz) hj (by rw [getD_idx hz,c])
          rw [c2,hj2,getD_idx hx]
      · rw [if_neg hz]
        constructor
        · intro c; subst c; exact absurd hx hz
        · intro c; subst c; exact absurd hy hz
  refine sumN_lt _ _ _ ?_ ?_
  · intro i hi
    by_cases hm : (i : Int) ∈ g
    · have := (key _ hm).2.2
      simp only [Int.toNat_natCast] at this
      omega
    · rw [ws_congr (nxI g) (i : Int) (i : Int) _ o 0 ?_]
      · exact Int.le_refl _
      · intro z _
        unfold nxI
        by_cases hz : z ∈ g
        · rw [if_pos hz]
          constructor
          · intro c
            exact absurd (c ▸ getD_mem (Nat.mod_lt _ hlen)) hm
          · intro c; subst c; exact absurd hz hm
        · rw [if_neg hz]
  · obtain ⟨x,hx⟩ := List.exists_mem_of_length_pos hlen
    obtain ⟨a,b,c⟩ := key x hx
    refine ⟨x.toNat,by omega,?_⟩
    rw [Int.toNat_of_nonneg a]
    exact c
theorem ownS_le {V : List (List Int)} {o : List Int} (h20 : ∀ i,i < V.length → Ok20 (V.getD i [])) (hl : ∀ i,i < V.length → (V.getD i []).length ≤ 6) (h4 : V.length ≤ 4) : 0 ≤ ownS V o ∧ ownS V o ≤ 480 := by
  have hb : ∀ i,i < V.length → 0 ≤ ws (i : Int) (V.getD i []) o 0 ∧ ws (i : Int) (V.getD i []) o 0 ≤ 120 := fun i hi => by
    have := ws_bound (i : Int) (V.getD i []) o 0 (h20 i hi) (by omega)
    have := hl i hi
    omega
  have : ∀ n,n ≤ V.length → 0 ≤ sumN (fun i => ws (i : Int) (V.getD i []) o 0) n ∧ sumN (fun i => ws (i : Int) (V.getD i []) o 0) n ≤ 120 * n := by
    intro n
    induction n with
    | zero => intro _; simp [sumN]
    | succ n ih =>
      intro hn
      have := ih (by omega)
      have := hb n (by omega)
      simp only [sumN]; omega
  have := this V.length (by omega)
  unfold ownS
  omega
def settle (V : List (List Int)) : Nat → List Int → List Int
  | 0,o => o
  | n + 1,o => if calmI V o = -1 then settle V n (turnI V o) else o
def ringsI (V : List (List Int)) : Nat → Nat → List Int → List Int
  | 0,_,o => o
  | n + 1,k,o => ringsI V n (k + 1) ((settle V 500 o).set k (calmI V (settle V 500 o)))
end Go.Am.Share
