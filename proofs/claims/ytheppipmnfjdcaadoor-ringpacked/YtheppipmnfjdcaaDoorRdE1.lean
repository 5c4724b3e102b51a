import Derived.Test.YtheppipmnfjdcaaDoorRdP11
import Derived.Test.YtheppipmnfjdcaaDoorRdP12
import Derived.Test.YtheppipmnfjdcaaDoorRdD1
set_option linter.unusedVariables false
set_option linter.unusedSimpArgs false
set_option maxRecDepth 10000
set_option maxHeartbeats 1000000
namespace Go.Am.Ring
open Go.Am.G
theorem pos_idx : ∀ (o : List Nat) (x : Nat),x ∈ o → pos o x = (o.idxOf x : Int)
  | [],x,h => by simp at h
  | f :: r,x,h => by
    rw [pos_cons]
    by_cases c : f = x
    · subst c; rw [if_pos rfl,List.idxOf_cons_self]; rfl
    · rw [if_neg c,List.idxOf_cons,show (f == x) = false from beq_eq_false_iff_ne.2 c,cond_false]
      have hx : x ∈ r := by
        rcases List.mem_cons.1 h with e | e
        · exact absurd e.symm c
        · exact e
      rw [if_pos hx,pos_idx r x hx]
      simp
end Go.Am.Ring
set_option linter.unusedVariables false
set_option linter.unusedSimpArgs false
namespace Go.Am.Ring
open Go.Am.G
theorem wo_in (S : List Nat) : ∀ (l : List (Nat × Nat)) (k i : Nat) (h : i < l.length),k + i ∉ S → l[i] ∈ woF S k l
  | [],k,i,h,_ => by simp at h
  | p :: l,k,0,h,hn => by
    rw [woF,if_neg (show k ∉ S from hn)]
    simp
  | p :: l,k,i + 1,h,hn => by
    have ih := wo_in S l (k + 1) i (by simpa using h) (by rwa [show k + 1 + i = k + (i + 1) by omega])
    rw [woF]
    split
    · exact ih
    · exact List.mem_cons_of_mem _ ih
theorem strS_done (P : List (Nat × Nat)) : ∀ (k : Nat) (b l : List Nat),strikeS P k b = some l → allR (woF l 0 P) = []
  | 0,b,l,h => by
    rw [strikeS] at h
    split at h
    · rename_i c; cases h; exact c
    · cases h
  | k + 1,b,l,h => by
    rw [strikeS] at h
    obtain ⟨i,_,e⟩ := List.exists_of_findSome?_eq_some h
    exact strS_done P k _ l e
theorem chain_next {P : List (Nat × Nat)} : ∀ (b : List Nat),Chain P b → ∀ k ∈ b,k = b.getLastD 0 ∨ ∃ y ∈ b,st P y = en P k
  | [],_,k,h => by simp at h
  | [x],_,k,h => by left; simpa using h
  | x :: y :: t,hc,k,h => by
    have hc2 : en P x = st P y ∧ Chain P (y :: t) := hc
    rcases List.mem_cons.1 h with rfl | h
    · exact .inr ⟨y,by simp,hc2.1.symm⟩
    · rcases chain_next (y :: t) hc2.2 k h with e | ⟨z,hz,e⟩
      · left; rw [e]; simp [List.getLastD]
      · exact .inr ⟨z,List.mem_cons_of_mem _ hz,e⟩
theorem exists_top (f : Nat → Int) : ∀ (b : List Nat),b ≠ [] → ∃ m ∈ b,∀ k ∈ b,f k ≤ f m
  | [],h => absurd rfl h
  | [x],_ => ⟨x,by simp,fun k hk => by rw [List.mem_singleton.1 hk]; exact Int.le_refl _⟩
  | x :: y :: t,_ => by
    obtain ⟨m,hm,h⟩ := exists_top f (y :: t) (by simp)
    by_cases c : f x ≤ f m
    · exact ⟨m,List.mem_cons_of_mem _ hm,fun k hk => by
        rcases List.mem_cons.1 hk with rfl | hk
        · exact c
        · exact h k hk⟩
    · exact ⟨x,by simp,fun k hk => by
        rcases List.mem_cons.1 hk with rfl | hk
        · exact Int.le_refl _
        · have := h k hk; omega⟩
theorem str_hits {n : Nat} {P : List (Nat × Nat)} (G : Good n P) {r : List Nat} (hr : r ∈ allR P) : ∃ x ∈ r,x ∈ strL n P := by
  by_cases c : ∃ x ∈ r,x ∈ strL n P
  · exact c
  · exfalso
    obtain ⟨C,_⟩ := (allR_mem G r).1 hr
    have h0 := strS_done P _ _ _ (strike_some G).1
    have Gw := good_wo G (strL n P) 0
    rw [no_ring Gw] at h0
    obtain ⟨o,ho,hc⟩ := FW_at Gw
    rw [h0,contr,List.countP_eq_zero] at hc
    obtain ⟨m,hm,hmax⟩ := exists_top (fun k => pos o (en P k)) r C.ne
    have hnx : ∃ y ∈ r,st P y = en P m := by
      rcases chain_next r C.ch m hm with e | h
      · refine ⟨r.headD 0,?_,?_⟩
        · cases r with
          | nil => exact absurd rfl C.ne
          | cons a t => simp
        · rw [← C.cl,← e]
      · exact h
    obtain ⟨y,hy,ey⟩ := hnx
    have hyl := C.lt y hy
    have hin := wo_in (strL n P) P 0 y hyl (by rw [Nat.zero_add]; exact fun h => c ⟨y,hy,h⟩)
    have hb := hc _ hin
    simp only [decide_eq_true_eq] at hb
    obtain ⟨s1,s2,s3⟩ := st_lt G hyl
    have e1 : P[y].1 = st P y := by rw [st,getD_at P y _ hyl]
    have e2 : P[y].2 = en P y := by rw [en,getD_at P y _ hyl]
    rw [e1,e2,ey] at hb
    have := hmax y hy
    obtain ⟨h1,h2,h3⟩ := ords_iff.1 ho
    obtain ⟨_,_,_,h4⟩ := ords_ok ho
    have g1 : pos o (en P m) = pos o (en P y) := by omega
    rw [← ey,pos_idx _ _ (h4 _ s1),pos_idx _ _ (h4 _ s2)] at g1
    have e' : o.idxOf (st P y) = o.idxOf (en P y) := by omega
    have a := List.getElem_idxOf (List.idxOf_lt_length_iff.2 (h4 _ s1))
    have b := List.getElem_idxOf (List.idxOf_lt_length_iff.2 (h4 _ s2))
    simp only [e'] at a
    exact s3 (a.symm.trans b)
theorem dis_le : ∀ (K : List (List Nat)) (s : List Nat),K.Pairwise Dis → (∀ r ∈ K,∃ x ∈ r,x ∈ s) → K.length ≤ s.length
  | [],s,_,_ => Nat.zero_le _
  | r :: K,s,h,hs => by
    rw [List.pairwise_cons] at h
    obtain ⟨x,hx,hxs⟩ := hs r (by simp)
    have ih := dis_le K (s.erase x) h.2 fun q hq => by
      obtain ⟨y,hy,hys⟩ := hs q (by simp [hq])
      have hne : y ≠ x := fun e => h.1 q hq x hx (e ▸ hy)
      exact ⟨y,hy,(List.mem_erase_of_ne hne).2 hys⟩
    rw [List.length_erase_of_mem hxs] at ih
    have : 0 < s.length := List.length_pos_of_mem hxs
    simp only [List.length_cons]
    omega
theorem ap_FW {n : Nat} {P : List (Nat × Nat)} (G : Good n P) : (ap (allR P)).length ≤ FW n P := by
  have h := ap_sub _ (allR P) (Nat.le_refl _)
  rw [← strL_len G]
  exact dis_le _ _ h.2 fun r hr => str_hits G (h.1.subset hr)
end Go.Am.Ring
set_option linter.unusedVariables false
set_option linter.unusedSimpArgs false
set_option maxRecDepth 10000
set_option maxHeartbeats 1000000
namespace Go.Am.Ring
open Go.Am.G
def chFO (x : Nat) : Option LV := (unL UnOp.neg (.int .u64 (x : Int))).bind fun a => binL BinOp.and (.int .u64 (x : Int)) a
def Fo (x : Nat) : Nat := 2 ^ tzP 12 x
def isU (r : Option LV) (t : Nat) : Bool := match r with
  | some (.int .u64 n) => decide (n = (t : Int))
  | _ => false
theorem isU_some {r : Option LV} {t : Nat} (h : isU r t = true) : r = some (.int .u64 (t : Int)) := by
  unfold isU at h
  split at h
  · rw [decide_eq_true_eq] at h; rw [h]
  · cases h
def foOk (x : Nat) : Bool := Nat.beq x 0 || (isU (chFO x) (Fo x) && Nat.beq (Fo x &&& x) (Fo x))
theorem foOk_all : allUp foOk 256 = true := by kernel_rfl
theorem fo_c {x : Nat} (hx : x < 256) (h0 : x ≠ 0) : (∃ a,unL UnOp.neg (.int .u64 (x : Int)) = some a ∧ binL BinOp.and (.int .u64 (x : Int)) a = some (.int .u64 ((Fo x : Nat) : Int))) ∧ Fo x &&& x = Fo x ∧ Fo x ≠ 0 := by
  have h := allUp_at foOk 256 foOk_all x hx
  unfold foOk at h
  simp only [Bool.or_eq_true,Bool.and_eq_true,Nat.beq_eq] at h
  rcases h with h | ⟨h1,h2⟩
  · exact absurd h h0
  · obtain ⟨a,e1,e2⟩ := bind_some' (isU_some h1)
    exact ⟨⟨a,e1,e2⟩,h2,Nat.pos_iff_ne_zero.1 (Nat.pow_pos (by omega))⟩
def Tab (f : Nat → Nat) (N S v : Nat) : List LV := (List.range N).map fun q => LV.int .i64 ((if q < S then f q else if q = S then v else 0 : Nat) : Int)
theorem tab_len (f : Nat → Nat) (N S v : Nat) : (Tab f N S v).length = N := by simp [Tab]
theorem tab_lt (f : Nat → Nat) {N S v q : Nat} (h : q < S) (hN : S < N) : (Tab f N S v)[q]? = some (.int .i64 ((f q : Nat) : Int)) := by
  rw [Tab,List.getElem?_map,List.getElem?_range (by omega),Option.map_some,if_pos h]
theorem tab_self (f : Nat → Nat) {N S v : Nat} (hN : S < N) : (Tab f N S v)[S]? = some (.int .i64 ((v : Nat) : Int)) := by
  rw [Tab,List.getElem?_map,List.getElem?_range (by omega),Option.map_some,if_neg (by omega),if_pos rfl]
theorem tab_set (f : Nat → Nat) {N S v x : Nat} (hN : S < N) : (Tab f N S v).set S (.int .i64 (x : Int)) = Tab f N S x := by
  apply List.ext_getElem?
  intro q
  rw [List.getElem?_set]
  by_cases c : S = q
  · subst c; rw [if_pos rfl,if_pos (by rw [tab_len]; exact hN),tab_self f hN]
  · rw [if_neg c,Tab,Tab,List.getElem?_map,List.getElem?_map]
    by_cases h : q < N
    · rw [List.getElem?_range h,Option.map_some,Option.map_some,if_neg (show ¬ q = S from fun e => c e.symm),if_neg (show ¬ q = S from fun e => c e.symm)]
    · rw [List.getElem?_eq_none (by simp; omega)]; rfl
theorem tab_next (f : Nat → Nat) (N S : Nat) : Tab f N S (f S) = Tab f N (S + 1) 0 := by
  refine List.map_congr_left fun q _ => ?_
  by_cases h1 : q < S
  · rw [if_pos h1,if_pos (by omega)]
  · by_cases h2 : q = S
    · subst h2; rw [if_neg h1,if_pos rfl,if_pos (by omega)]
    · rw [if_neg h1,if_neg h2,if_neg (by omega)]
      split <;> rfl
theorem tab_zero (f : Nat → Nat) (N : Nat) : Tab f N 0 0 = List.replicate N (.int .i64 0) := by
  apply List.ext_getElem?
  intro q
  rw [Tab,List.getElem?_map,List.getElem?_replicate]
  by_cases h : q < N
  · rw [List.getElem?_range h,if_pos h,Option.map_some,if_neg (by omega)]
    split <;> rfl
  · rw [if_neg h,List.getElem?_eq_none (by simp; omega)]; rfl
theorem tab_splice (f : Nat → Nat) {N S v x : Nat} (hN : S < N) : (Tab f N S v).take S ++ [.int .i64 (x : Int)] ++ (Tab f N S v).drop (S + 1) = Tab f N S x := by
  have h := tab_set f (v := v) (x := x) hN
  rw [List.set_eq_take_append_cons_drop,if_pos (by rw [tab_len]; exact hN)] at h
  rw [List.append_assoc]
  exact h
theorem set_same {M : LMem} {b : Nat} {x : LBlk} (h : M[b]? = some x) : M.set b x = M := by
  apply List.ext_getElem?
  intro q
  rw [List.getElem?_set]
  by_cases c : b = q
  · subst c; rw [if_pos rfl,if_pos (get_lt h),h]
  · rw [if_neg c]
theorem parts_loop (f : Nat → Nat) (hf : ∀ q,f q ≤ 1000) (N S F : Nat) (hS : S < N) (hN : N ≤ 256) (hF : F < 256) (X4 X5 X128 X129 : LV) (b : Nat) (d : Nat) : ∀ (p v : Nat) (M : LMem),p ≤ d → p &&& S = p → M[b]? = some ⟨Tab f N S v,true⟩ →
    exF LP law04_RingPacked.L2 [(4,X4),(5,X5),(17,.sl b 0 N N 0 1 N),(18,.int .u64 (S : Int)),(21,.int .u64 (F : Int)),(22,.int .u64 (p : Int)),(128,X128),(129,X129)] M =
      some (.exit 6,[(4,X4),(5,X5),(17,.sl b 0 N N 0 1 N),(128,X128),(129,X129)],M.set b ⟨Tab f N S (bestP f S F (partsF S d p) v),true⟩) := by
  induction d with
  | zero =>
    intro p v M hp hpS hM
    obtain rfl : p = 0 := by omega
    rw [partsF,bestP,List.foldl_nil,set_same hM,law04_RingPacked.L2_eq]
    simp only [law04_RingPacked.B2,exF_seq,exF_region,exF_cond,exF_exit,runL,wantL,stepL,evL,evC,LEnv.at,putL,loadFine,LEnv.keep,List.map_cons,List.map_nil,nbeq,bin_neq,Nat.reduceEqDiff,decide_true,decide_false,cond_true,cond_false,eq_self,not_true_eq_false,ne_eq,Int.natCast_zero,Int.natCast_zero]
  | succ d ih =>
    intro p v M hp hpS hM
    have hple : p ≤ S := by rw [← hpS]; exact Nat.and_le_right
    rw [partsF]
    by_cases c0 : p = 0
    · subst c0
      rw [if_pos rfl,bestP,List.foldl_nil,set_same hM,law04_RingPacked.L2_eq]
      simp only [law04_RingPacked.B2,exF_seq,exF_region,exF_cond,exF_exit,runL,wantL,stepL,evL,evC,LEnv.at,putL,loadFine,LEnv.keep,List.map_cons,List.map_nil,nbeq,bin_neq,Nat.reduceEqDiff,decide_true,decide_false,cond_true,cond_false,eq_self,not_true_eq_false,ne_eq,Int.natCast_zero,Int.natCast_zero]
    · rw [if_neg c0]
      have hb : b < M.length := get_lt hM
      have hle : (p - 1) &&& S ≤ p - 1 := Nat.and_le_left
      have i0 : ¬ ((p : Int) = 0) := by omega
      have hand := bits_and (a := p) (b := F) (by omega) (by omega)
      have hpred := bits_pred (a := p) (by omega) (by omega)
      have hand2 := bits_and (a := p - 1) (b := S) (by omega) (by omega)
      have e : ∀ l,bestP f S F (p :: l) v = bestP f S F l (if p &&& F ≠ 0 ∧ p ≠ S then max v (f p + f (andN S p)) else v) := fun l => rfl
      rw [e]
      rw [law04_RingPacked.L2_eq]
      by_cases c1 : p &&& F = 0
      · have i1 : ((p &&& F : Nat) : Int) = 0 := by omega
        rw [if_neg (fun h => h.1 c1)]
        have ih := ih ((p - 1) &&& S) v M (by omega) (and_sub _ _) hM
        generalize (p &&& F : Nat) = pf at *
        generalize ((p - 1) &&& S : Nat) = nx at *
        simp only [law04_RingPacked.B2,law04_RingPacked.B2.R0,beqT,exF_seq,exF_region,exF_block,exF_cond,exF_skip,runL,wantL,stepL,evL,evC,LEnv.at,putL,loadFine,LEnv.keep,List.map_cons,List.map_nil,nbeq,bin_neq,Nat.reduceEqDiff,decide_true,decide_false,cond_true,cond_false,eq_self,not_true_eq_false,not_false_eq_true,ne_eq,i0,hand,hpred,hand2,i1,ih]
      · have i1 : ¬ ((p &&& F : Nat) : Int) = 0 := by omega
        by_cases c2 : p = S
        · have i2 : (p : Int) = (S : Int) := by omega
          rw [if_neg (fun h => h.2 c2)]
          have ih := ih ((p - 1) &&& S) v M (by omega) (and_sub _ _) hM
          subst c2
          clear i2
          generalize (p &&& F : Nat) = pf at *
          generalize ((p - 1) &&& p : Nat) = nx at *
          simp only [law04_RingPacked.B2,law04_RingPacked.B2.R0,beqT,exF_seq,exF_region,exF_block,exF_cond,exF_skip,runL,wantL,stepL,evL,evC,LEnv.at,putL,loadFine,LEnv.keep,List.map_cons,List.map_nil,nbeq,bin_neq,Nat.reduceEqDiff,decide_true,decide_false,cond_true,cond_false,eq_self,not_true_eq_false,not_false_eq_true,ne_eq,i0,hand,hpred,hand2,i1,eq_self,not_true_eq_false,decide_false,ih]
        · have i2 : ¬ (p : Int) = (S : Int) := by omega
          rw [if_pos ⟨c1,c2⟩]
          have han := bits_andNot (a := S) (b := p) (by omega) (by omega)
          have hlt : andN S p < S := by
            have h1 : andN S p &&& S = andN S p := Nat.eq_of_testBit_eq fun i => by
              rw [Nat.testBit_and,andN_bit _ _ _ (by omega)]
              cases S.testBit i <;> simp
            have h2 : andN S p ≤ S := by rw [← h1]; exact Nat.and_le_right
            have h3 : andN S p ≠ S := fun h => c0 (Nat.eq_of_testBit_eq fun i => by
              have g1 := congrArg (fun n => n.testBit i) h
              have g2 := congrArg (fun n => n.testBit i) hpS
              simp only [Nat.testBit_and] at g2
              simp only [andN_bit S p i (by omega)] at g1
              rw [Nat.zero_testBit]
              cases h1 : S.testBit i <;> cases h2 : p.testBit i <;> simp_all)
            omega
          have tp := tab_lt f (N := N) (S := S) (v := v) (q := p) (by omega) hS
          have ta := tab_lt f (N := N) (S := S) (v := v) (q := andN S p) hlt hS
          have ts := tab_self f (N := N) (S := S) (v := v) hS
          have tl := tab_len f N S v
          have hfp := hf p
          have hfa := hf (andN S p)
          have hadd := wrap_nat (n := f p + f (andN S p)) (by omega)
          have hst := fun x : Nat => tab_splice f (N := N) (S := S) (v := v) (x := x) hS
          have hmax : (if ((v : Nat) : Int) < ((f p + f (andN S p) : Nat) : Int) then ((f p + f (andN S p) : Nat) : Int) else ((v : Nat) : Int)) = ((max v (f p + f (andN S p)) : Nat) : Int) := by split <;> omega
          have ih := ih ((p - 1) &&& S) (max v (f p + f (andN S p))) (M.set b ⟨Tab f N S (max v (f p + f (andN S p))),true⟩) (by omega) (and_sub _ _) (by rw [List.getElem?_set_self hb])
          rw [List.set_set] at ih
          have hpN : p < N := by omega
          have haN : andN S p < N := by omega
          rw [Int.natCast_add] at hadd hmax
          generalize (max v (f p + f (andN S p)) : Nat) = v2 at *
          generalize f p = fp at *
          generalize f (andN S p) = fa at *
          generalize (andN S p : Nat) = sp at *
          generalize (p &&& F : Nat) = pf at *
          generalize ((p - 1) &&& S : Nat) = nx at *
          simp only [law04_RingPacked.B2,law04_RingPacked.B2.R0,law04_RingPacked.B2.R1,beqT,exF_seq,exF_region,exF_block,exF_cond,exF_skip,runL,wantL,stepL,evL,evC,LEnv.at,putL,loadFine,loadL,cellsAt,Trk.putNew,Trk.up,Trk.touch,Trk.gives,Trk.calm,Trk.hit,opdsOf,Trk.fresh,LEnv.keep,List.map_cons,List.map_nil,nbeq,nble,nblt,bin_add,bin_neq,natL_nat,List.any_cons,List.any_nil,Bool.or_false,Bool.or_true,Bool.and_true,Bool.false_and,Bool.not_true,Bool.not_false,Nat.reduceEqDiff,decide_true,decide_false,cond_true,cond_false,List.filter_nil,Nat.reduceAdd,reduceCtorEq,List.length_nil,List.length_cons,Nat.mul_one,eq_self,not_false_eq_true,ne_eq,LV.cells,storeL,spliceL,Nat.le_refl,LV.scalar,List.all_cons,List.all_nil,foldIntL,kind_beq,i0,hand,hpred,hand2,i1,i2,han,hM,Nat.zero_add,show ¬ (List.length M ≤ b) by omega,show S + 1 ≤ N by omega,tl,tp,ta,ts,hpN,haN,hS,hadd,hmax,hst,ih]
end Go.Am.Ring
