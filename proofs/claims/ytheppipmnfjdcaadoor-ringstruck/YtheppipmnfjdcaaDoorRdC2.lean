import Derived.Test.YtheppipmnfjdcaaDoorRdC1
import Derived.Test.YtheppipmnfjdcaaDoorLm13
set_option linter.unusedVariables false
set_option linter.unusedSimpArgs false
set_option maxRecDepth 10000
namespace Go.Am.Ring
open Go.Am.G
def plcG (x : Int) : Nat → List Int → Int
  | _,[] => -1
  | k,a :: r => if a = x then (k : Int) else plcG x (k + 1) r
def plc (l : List Int) (x : Int) : Int := plcG x 0 l
theorem plcG_lt (x : Int) : ∀ (l : List Int) (k : Nat),-1 ≤ plcG x k l ∧ plcG x k l < (k : Int) + l.length
  | [],k => by simp [plcG]; omega
  | a :: r,k => by
    have := plcG_lt x r (k + 1)
    rw [plcG,List.length_cons]
    split <;> omega
theorem plcG_mem (x : Int) : ∀ (l : List Int) (k : Nat),(0 ≤ plcG x k l ↔ x ∈ l)
  | [],k => by simp [plcG]
  | a :: r,k => by
    have := plcG_mem x r (k + 1)
    rw [plcG,List.mem_cons]
    split
    · rename_i h; subst h; simp
    · rename_i h
      rw [this]
      constructor
      · exact .inr
      · rintro (h' | h')
        · exact absurd h'.symm h
        · exact h'
theorem plc_mem (l : List Int) (x : Int) : 0 ≤ plc l x ↔ x ∈ l := plcG_mem x l 0
theorem plcG_snoc (x y : Int) : ∀ (l : List Int) (k : Nat),plcG x k (l ++ [y]) = if x ∈ l then plcG x k l else if y = x then ((k + l.length : Nat) : Int) else -1
  | [],k => by simp [plcG]
  | a :: r,k => by
    rw [List.cons_append,plcG,plcG_snoc x y r (k + 1),plcG]
    by_cases c : a = x
    · subst c; simp
    · have : x ∈ a :: r ↔ x ∈ r := by simp [Ne.symm c]
      simp only [if_neg c,this,List.length_cons]
      split
      · rfl
      · split
        · congr 1; omega
        · rfl
def agnF (o : List Int) : Nat → List (Int × Int) → List Int
  | _,[] => []
  | k,p :: r => if plc o p.2 < plc o p.1 then (k : Int) :: agnF o (k + 1) r else agnF o (k + 1) r
def agn (l : List (Int × Int)) (o : List Int) : List Int := agnF o 0 l
def chkO (N : Int) : List Int → List Int → Int
  | _,[] => 0
  | pre,x :: r => if 0 ≤ x ∧ x < N then (if x ∈ pre then 6 else chkO N (pre ++ [x]) r) else 2
def againstV (N : Int) (l : List (Int × Int)) (o : List Int) : List Int × Int :=
  if chkF N l = 0 then (if (o.length : Int) = N then (if chkO N [] o = 0 then (agn l o,0) else ([],chkO N [] o)) else ([],5)) else ([],chkF N l)
theorem chkF_ok {N : Int} {l : List (Int × Int)} (h : chkF N l = 0) : (1 ≤ N ∧ N ≤ 6) ∧ l.length ≤ 12 ∧ chkP N l = 0 := by
  unfold chkF at h
  split at h
  · rename_i h1
    split at h
    · rename_i h2; exact ⟨h1,h2,h⟩
    · omega
  · omega
end Go.Am.Ring
set_option linter.unusedVariables false
set_option linter.unusedSimpArgs false
set_option maxRecDepth 10000
namespace Go.Am.Ring
open Go.Am.G
def castP (p : Nat × Nat) : Int × Int := ((p.1 : Int),(p.2 : Int))
structure Good (n : Nat) (P : List (Nat × Nat)) : Prop where
  pos : 1 ≤ n
  le6 : n ≤ 6
  le12 : P.length ≤ 12
  lt : ∀ p ∈ P,p.1 < n ∧ p.2 < n
  ne : ∀ p ∈ P,p.1 ≠ p.2
theorem chkP_good (N : Int) : ∀ (l : List (Int × Int)),chkP N l = 0 → ∃ P : List (Nat × Nat),l = P.map castP ∧ ∀ p ∈ P,(p.1 : Int) < N ∧ (p.2 : Int) < N ∧ p.1 ≠ p.2
  | [],_ => ⟨[],rfl,by simp⟩
  | p :: r,h => by
    rw [chkP] at h
    split at h
    · rename_i c
      split at h
      · omega
      · rename_i d
        obtain ⟨P,rfl,hP⟩ := chkP_good N r h
        refine ⟨(p.1.toNat,p.2.toNat) :: P,?_,?_⟩
        · simp only [List.map_cons,castP,List.cons.injEq,and_true]
          ext <;> simp <;> omega
        · intro q hq
          rcases List.mem_cons.1 hq with rfl | hq
          · simp only; omega
          · exact hP q hq
    · omega
theorem good_of {N : Int} {l : List (Int × Int)} (h : chkF N l = 0) : ∃ (n : Nat) (P : List (Nat × Nat)),N = (n : Int) ∧ l = P.map castP ∧ Good n P := by
  obtain ⟨hN,hl,hc⟩ := chkF_ok h
  obtain ⟨P,rfl,hP⟩ := chkP_good N l hc
  refine ⟨N.toNat,P,by omega,rfl,by omega,by omega,by simpa using hl,fun p hp => ?_,fun p hp => (hP p hp).2.2⟩
  have := hP p hp
  omega
theorem chkF_of {n : Nat} {P : List (Nat × Nat)} (G : Good n P) : chkF (n : Int) (P.map castP) = 0 := by
  have h : ∀ (Q : List (Nat × Nat)),(∀ p ∈ Q,p.1 < n ∧ p.2 < n) → (∀ p ∈ Q,p.1 ≠ p.2) → chkP (n : Int) (Q.map castP) = 0 := by
    intro Q
    induction Q with
    | nil => intros; rfl
    | cons a r ih =>
      intro h1 h2
      have a1 := h1 a (by simp)
      have a2 := h2 a (by simp)
      rw [List.map_cons,chkP,if_pos (by simp [castP]; omega),if_neg (by simp [castP]; omega)]
      exact ih (fun p hp => h1 p (by simp [hp])) (fun p hp => h2 p (by simp [hp]))
  unfold chkF
  rw [if_pos (by have := G.pos; have := G.le6; omega),if_pos (by simpa using G.le12)]
  exact h P G.lt G.ne
theorem pcN_seg (P : List (Nat × Nat)) (k : Nat) (h : k < P.length) : ((pcI (P.map castP)).drop (k * 2)).take 2 = [.int .i64 ((P[k].1 : Nat) : Int),.int .i64 ((P[k].2 : Nat) : Int)] := by
  rw [pcI_seg _ _ (by simpa using h)]; simp [castP]
theorem pcN_ok (P : List (Nat × Nat)) (k : Nat) (h : k < P.length) : k * 2 + 2 ≤ (pcI (P.map castP)).length := pcI_ok _ _ (by simpa using h)
def nones (L : Nat) : List Int := List.replicate L (-1)
theorem repeat_run : ∀ (L : Nat),L ≤ 6 → exF LP slices_Repeat_int_int.B (LEnv.ofFrom 0 [.lst false true 1 1 [.int .i64 (-1)],.int .i64 (L : Int)]) [] = some (.ret,[(4,.sl 0 0 L L 0 1 L)],[⟨(nones L).map (LV.int .i64),true⟩])
  | 0,_ => exF_some.2 ⟨400,by kernel_rfl⟩
  | 1,_ => exF_some.2 ⟨400,by kernel_rfl⟩
  | 2,_ => exF_some.2 ⟨400,by kernel_rfl⟩
  | 3,_ => exF_some.2 ⟨400,by kernel_rfl⟩
  | 4,_ => exF_some.2 ⟨400,by kernel_rfl⟩
  | 5,_ => exF_some.2 ⟨400,by kernel_rfl⟩
  | 6,_ => exF_some.2 ⟨400,by kernel_rfl⟩
theorem repeat_c (L : Nat) (h : L ≤ 6) (m : LMem) : clF LP n_slices_Repeat_int_int [.lst false true 1 1 [.int .i64 (-1)],.int .i64 (L : Int)] m = some (.O,.sl m.length 0 L L 0 1 L,m ++ [⟨(nones L).map (LV.int .i64),true⟩]) := by
  rw [call_O lp_slices_Repeat_int_int rfl (by simp [LV.pures,LV.pure]) (v := .sl 0 0 L L 0 1 L) (m1 := [⟨(nones L).map (LV.int .i64),true⟩]) (by simp only [slices_Repeat_int_int,repeat_run L h]; rfl) m]
  simp [LV.shift,shifts_int]
def atL (n : Nat) (pre : List Int) : List Int := (List.range n).map fun f : Nat => plc pre (f : Int)
theorem atL_len (n : Nat) (pre : List Int) : (atL n pre).length = n := by simp [atL]
theorem atL_at (n : Nat) (pre : List Int) (f : Nat) (h : f < n) : (atL n pre)[f]? = some (plc pre (f : Int)) := by simp [atL,h]
theorem atL_nil (n : Nat) : atL n [] = nones n := by
  apply List.ext_getElem?
  intro i
  by_cases h : i < n
  · rw [atL_at n [] i h,nones,List.getElem?_replicate,if_pos h]; rfl
  · rw [List.getElem?_eq_none (by rw [atL_len]; omega),List.getElem?_eq_none (by simp [nones]; omega)]
theorem atL_snoc (n : Nat) (pre : List Int) (x : Nat) (hx : x < n) (h : (x : Int) ∉ pre) : atL n (pre ++ [(x : Int)]) = (atL n pre).set x (pre.length : Int) := by
  apply List.ext_getElem?
  intro i
  by_cases hi : i < n
  · rw [atL_at _ _ i hi,List.getElem?_set,atL_len,atL_at _ _ i hi]
    unfold plc
    rw [plcG_snoc]
    by_cases c : x = i
    · subst c
      simp [h,hx]
    · rw [if_neg c,if_neg (show ¬ (x : Int) = (i : Int) by omega)]
      split
      · rfl
      · rename_i hn
        have h5 : ¬ 0 ≤ plcG (i : Int) 0 pre := fun c => hn ((plcG_mem (i : Int) pre 0).1 c)
        have := (plcG_lt (i : Int) pre 0).1
        congr 1; omega
  · rw [List.getElem?_eq_none (by rw [atL_len]; omega),List.getElem?_eq_none (by simp [atL_len]; omega)]
theorem trim_one (vs : List LV) (b : LBlk) : trim 1 vs [b] = [b] := trim_le 1 vs [b] (by simp)
theorem agn0_loop (n0 : Nat) (hn : 1 ≤ n0 ∧ n0 ≤ 6) (nl ex nl' ex' : Bool) (sz sz' : Nat) (l : List (Int × Int)) (o : List Int) (ho : o.length < 1000) (n : Nat) : ∀ (k : Nat),k + n = o.length → (∀ x ∈ o.take k,0 ≤ x ∧ x < (n0 : Int)) →
    ∃ M,exF LP ring_Against.L0 [(0,.int .i64 (n0 : Int)),(1,FL nl ex sz l),(9,.sl 0 0 n0 n0 0 1 n0),(30,IL nl' ex' sz' o),(31,.int .i64 (o.length : Int)),(32,.int .i64 (k : Int))] [⟨(atL n0 (o.take k)).map (LV.int .i64),true⟩] =
      if chkO (n0 : Int) (o.take k) (o.drop k) = 0 then some (.exit 1,[(1,FL nl ex sz l),(9,.sl 0 0 n0 n0 0 1 n0)],[⟨(atL n0 o).map (LV.int .i64),true⟩])
      else some (.ret,[(6,.lst true true 0 0 []),(7,.int .i64 (chkO (n0 : Int) (o.take k) (o.drop k)))],M) := by
  have hw : IntKind.i64.wrap ((n0 : Int) - 1) = (n0 : Int) - 1 := wrap_in (by omega)
  induction n with
  | zero =>
    intro k hk _
    refine ⟨[],?_⟩
    rw [ring_Against.L0_eq]
    simp only [ring_Against.B0,exF_seq,exF_region,exF_cond,exF_exit,runL,wantL,stepL,evL,LEnv.at,putL,loadFine,LEnv.keep,List.map_cons,List.map_nil,nbeq,bin_lss,Nat.reduceEqDiff,decide_true,decide_false,cond_true,cond_false,reduceCtorEq,if_true,eq_self,show ¬ ((k : Int) < (o.length : Int)) by omega,List.drop_eq_nil_of_le (show o.length ≤ k by omega),chkO,List.take_of_length_le (show o.length ≤ k by omega)]
  | succ n ih =>
    intro k hk hpre
    have h2 : k < o.length := by omega
    have ih := ih (k + 1) (by omega)
    rw [ring_Against.L0_eq,List.drop_eq_getElem_cons h2,chkO]
    rw [take_snoc o k h2] at ih
    by_cases c1 : 0 ≤ o[k] ∧ o[k] < (n0 : Int)
    · have e1 : inB 0 ((n0 : Int) - 1) o[k] = true := by simp only [inB]; rw [decide_eq_true_eq]; omega
      rw [if_pos c1]
      obtain ⟨x,hx⟩ : ∃ x : Nat,o[k] = (x : Int) := ⟨o[k].toNat,by omega⟩
      have hxn : x < n0 := by omega
      have hat : ((atL n0 (o.take k)).map (LV.int .i64))[x]? = some (.int .i64 (plc (o.take k) (x : Int))) := by rw [List.getElem?_map,atL_at _ _ x hxn]; rfl
      have hlen : ((atL n0 (o.take k)).map (LV.int .i64)).length = n0 := by rw [List.length_map,atL_len]
      have hm := plc_mem (o.take k) (x : Int)
      have hok := int_at .i64 o k h2
      rw [hx] at hok e1 ih ⊢
      have ih := ih (by
        intro y hy
        rcases List.mem_append.1 hy with hy | hy
        · exact hpre y hy
        · rw [List.mem_singleton.1 hy,← hx]; exact c1)
      by_cases c2 : (x : Int) ∈ o.take k
      · have c3 := hm.2 c2
        rw [if_pos c2]
        refine ⟨[⟨(atL n0 (o.take k)).map (LV.int .i64),true⟩],?_⟩
        simp only [ring_Against.B0,exF_seq,exF_region,exF_block,exF_cond,exF_ret,exF_skip,runL,wantL,stepL,evL,evC,LEnv.at,putL,loadFine,loadL,cellsAt,Trk.putNew,Trk.up,Trk.touch,Trk.gives,Trk.calm,Trk.hit,opdsOf,Trk.fresh,LEnv.keep,List.map_cons,List.map_nil,nbeq,nble,nblt,ofAVs,bin_sub,bin_lss,bin_geq,natL_nat,List.any_cons,List.any_nil,Bool.or_false,Bool.or_true,Bool.and_true,Bool.false_and,Bool.not_true,Bool.not_false,Nat.reduceEqDiff,decide_true,decide_false,cond_true,cond_false,List.filter_nil,Nat.reduceAdd,Nat.reduceLeDiff,reduceCtorEq,List.length_nil,List.length_cons,Nat.mul_one,if_false,eq_self,List.append_nil,List.nil_append,unL,Int.reduceEq,List.getElem?_cons_zero,show ((k : Int) < (o.length : Int)) by omega,h2,hok,between_c,hw,e1,hxn,Nat.zero_add,hat,hlen,c3,List.length_map]
        try rfl
      · have c3 : ¬ 0 ≤ plc (o.take k) (x : Int) := fun c => c2 (hm.1 c)
        rw [if_neg c2]
        obtain ⟨M,ih⟩ := ih
        refine ⟨M,?_⟩
        have hst := set_int .i64 (atL n0 (o.take k)) x (k : Int) (by rw [atL_len]; exact hxn)
        have hsn := atL_snoc n0 (o.take k) x hxn c2
        have hkl : (o.take k).length = k := by simp; omega
        rw [hkl] at hsn
        rw [hsn] at ih
        simp only [ring_Against.B0,exF_seq,exF_region,exF_block,exF_cond,exF_skip,runL,wantL,stepL,evL,evC,LEnv.at,putL,loadFine,loadL,cellsAt,Trk.putNew,Trk.up,Trk.touch,Trk.gives,Trk.calm,Trk.hit,opdsOf,Trk.fresh,LEnv.keep,List.map_cons,List.map_nil,nbeq,nble,nblt,ofAVs,bin_add,bin_sub,bin_lss,bin_geq,natL_nat,List.any_cons,List.any_nil,Bool.or_false,Bool.or_true,Bool.and_true,Bool.false_and,Bool.not_true,Bool.not_false,Nat.reduceEqDiff,decide_true,decide_false,cond_true,cond_false,List.filter_nil,Nat.reduceAdd,Nat.reduceLeDiff,reduceCtorEq,List.length_nil,List.length_cons,Nat.mul_one,eq_self,List.append_nil,List.nil_append,unL,LV.cells,List.getElem?_cons_zero,storeL,spliceL,List.set_cons_zero,LV.scalar,List.all_cons,List.all_nil,show ((k : Int) < (o.length : Int)) by omega,h2,hok,between_c,hw,e1,hxn,Nat.zero_add,hat,hlen,c3,List.length_map,hst,show x + 1 ≤ n0 by omega,trim_one,wrap_succ (show k + 1 < 9223372036854775808 by omega),ih]
    · have e1 : inB 0 ((n0 : Int) - 1) o[k] = false := by simp only [inB]; rw [decide_eq_false_iff_not]; omega
      rw [if_neg c1]
      refine ⟨[⟨(atL n0 (o.take k)).map (LV.int .i64),true⟩],?_⟩
      simp only [ring_Against.B0,exF_seq,exF_region,exF_block,exF_cond,exF_ret,exF_skip,runL,wantL,stepL,evL,evC,LEnv.at,putL,loadFine,loadL,cellsAt,Trk.putNew,Trk.up,Trk.touch,Trk.gives,Trk.calm,opdsOf,Trk.fresh,LEnv.keep,List.map_cons,List.map_nil,nbeq,nble,nblt,ofAVs,bin_sub,bin_lss,natL_nat,List.any_cons,List.any_nil,Bool.or_false,Bool.or_true,Bool.and_true,Bool.false_and,Bool.not_true,Bool.not_false,Nat.reduceEqDiff,decide_true,decide_false,cond_true,cond_false,List.filter_nil,Nat.reduceAdd,Nat.reduceLeDiff,reduceCtorEq,List.length_nil,List.length_cons,Nat.mul_one,if_false,eq_self,List.append_nil,List.nil_append,unL,Int.reduceEq,show ((k : Int) < (o.length : Int)) by omega,h2,int_at _ _ _ h2,between_c,hw,e1]
      try rfl
theorem gv_ne {b : Nat} {l : List Int} (h : l ≠ []) : GV b l = .sl b 0 l.length l.length 1 1 l.length := by rw [GV,if_neg h]
def BM (w d : List LV) (out : List Int) : LMem := if out = [] then [⟨w,true⟩] else [⟨w,true⟩,⟨d,true⟩,⟨out.map (LV.int .i64),true⟩]
theorem BM_0f (w d : List LV) (out : List Int) (f : LBlk) : (BM w d out ++ [f])[0]? = some ⟨w,true⟩ := by unfold BM; split <;> rfl
theorem last_at (m : LMem) (b : LBlk) : (m ++ [b])[m.length]? = some b := by simp
theorem last_set (m : LMem) (b c : LBlk) : (m ++ [b]).set m.length c = m ++ [c] := by simp
theorem BM_app (w d f : List LV) (out : List Int) (x : Int) (ho : out.length < 1000) : ∃ d',(d' = f ∨ d' = d) ∧ appendL (BM w d out ++ [⟨f,true⟩]) 1 8 (GV 2 out) (.lst false true 1 1 [.int .i64 x]) = some (GV 2 (out ++ [x]),BM w d' (out ++ [x]) ++ (if out = [] then [] else [⟨f,true⟩])) := by
  by_cases c : out = []
  · subst c
    refine ⟨f,.inl rfl,?_⟩
    have := append_grow [⟨w,true⟩,⟨f,true⟩] [] x true (by simp)
    simpa [BM,GM] using this
  · refine ⟨d,.inr rfl,?_⟩
    have := append_c [⟨w,true⟩,⟨d,true⟩] [⟨f,true⟩] 1 8 out.length (out.map (LV.int .i64)) [.int .i64 x] true (by simp) rfl rfl (by omega) (by omega) (.inl (by simpa using c))
    have hl : out.length ≠ 0 := by simpa using c
    have e1 : GVc 2 1 out.length = GV 2 out := by rw [gv_ne c,GVc,if_neg hl]; simp
    have e2 : GVc 2 1 (out.length + 1) = GV 2 (out ++ [x]) := by rw [gv_ne (by simp),GVc,if_neg (by omega)]; simp
    simp only [List.length_cons,List.length_nil,Nat.zero_add,Nat.reduceAdd,e1,e2] at this
    simpa [BM,c,GMc,hl] using this
theorem BM_len (w d : List LV) (out : List Int) : (BM w d out).length = if out = [] then 1 else 3 := by unfold BM; split <;> rfl
theorem BM_under (w d : List LV) (out : List Int) (L : Nat) (l : LV) (hl : ∀ k,LV.under k l = true) (a b : Int) : LV.unders (BM w d out).length [.sl 0 0 L L 0 1 L,GV 2 out,l,.int .i64 a,.int .i64 b] = true := by
  rw [BM_len]
  by_cases c : out = []
  · subst c; simp [LV.unders,LV.under,GV,hl]
  · simp [LV.unders,LV.under,gv_ne c,c,hl]
theorem BM_trim (w d f : List LV) (out : List Int) (hw : LV.unders 1 w = true) (hd : LV.unders 3 d = true) (hw3 : LV.unders 3 w = true) (L : Nat) (l : LV) (hl : ∀ k,LV.under k l = true) (a b : Int) :
    trim (BM w d out).length [.sl 0 0 L L 0 1 L,GV 2 out,l,.int .i64 a,.int .i64 b] (BM w d out ++ [⟨f,true⟩]) = BM w d out := by
  unfold trim
  rw [List.take_left,BM_under w d out L l hl]
  by_cases c : out = []
  · simp [BM,c,belowM,hw]
  · simp [BM,c,belowM,hw3,hd,unders_int]
theorem BM_trim2 (w d d' f : List LV) (out : List Int) (x : Int) (hd : LV.unders 3 d' = true) (hw3 : LV.unders 3 w = true) (L : Nat) (l : LV) (hl : ∀ k,LV.under k l = true) (a b : Int) :
    trim (BM w d out).length [.sl 0 0 L L 0 1 L,GV 2 (out ++ [x]),l,.int .i64 a,.int .i64 b] (BM w d' (out ++ [x]) ++ (if out = [] then [] else [⟨f,true⟩])) = BM w d' (out ++ [x]) := by
  by_cases c : out = []
  · subst c
    simp [trim,BM_len,LV.unders,LV.under,gv_ne,nblt]
  · have := BM_trim w d' f (out ++ [x])
    rw [if_neg c]
    have e : (BM w d out).length = (BM w d' (out ++ [x])).length := by rw [BM_len,BM_len,if_neg c,if_neg (by simp)]
    rw [e]
    unfold trim
    rw [List.take_left,BM_under w d' (out ++ [x]) L l hl]
    have hu := unders_int .i64 3 (out ++ [x])
    simp only [List.map_append,List.map_cons,List.map_nil] at hu
    simp [BM,belowM,hw3,hd,hu]
abbrev FN (nl ex : Bool) (sz : Nat) (P : List (Nat × Nat)) : LV := FL nl ex sz (P.map castP)
theorem FN_eq (nl ex : Bool) (sz : Nat) (P : List (Nat × Nat)) : FN nl ex sz P = .lst nl ex sz P.length (pcI (P.map castP)) := by simp [FN,FL]
theorem agn1_loop (n0 : Nat) (hn : 1 ≤ n0 ∧ n0 ≤ 6) (nl ex : Bool) (sz : Nat) (P : List (Nat × Nat)) (G : Good n0 P) (o : List Int) (n : Nat) : ∀ (k : Nat) (d : List LV) (out : List Int),k + n = P.length → out.length ≤ k → LV.unders 3 d = true →
    ∃ d',exF LP ring_Against.L1 [(9,.sl 0 0 n0 n0 0 1 n0),(12,GV 2 out),(54,FN nl ex sz P),(55,.int .i64 (P.length : Int)),(56,.int .i64 (k : Int))] (BM ((atL n0 o).map (LV.int .i64)) d out) =
      some (.exit 4,[(12,GV 2 (out ++ agnF o k ((P.drop k).map castP)))],BM ((atL n0 o).map (LV.int .i64)) d' (out ++ agnF o k ((P.drop k).map castP))) := by
  have h12 := G.le12
  induction n with
  | zero =>
    intro k d out hk ho hd
    refine ⟨d,?_⟩
    rw [ring_Against.L1_eq]
    simp only [ring_Against.B1,exF_seq,exF_region,exF_cond,exF_exit,runL,wantL,stepL,evL,LEnv.at,putL,loadFine,LEnv.keep,List.map_cons,List.map_nil,nbeq,bin_lss,Nat.reduceEqDiff,decide_true,decide_false,cond_true,cond_false,eq_self,List.append_nil,show ¬ ((k : Int) < (P.length : Int)) by omega,List.drop_eq_nil_of_le (show P.length ≤ k by omega),agnF]
  | succ n ih =>
    intro k d out hk hout hd
    have h2 : k < P.length := by omega
    have hlt := G.lt _ (List.getElem_mem h2)
    have s0 := pcN_seg P k h2
    have ok := pcN_ok P k h2
    rw [ring_Against.L1_eq,List.drop_eq_getElem_cons h2,List.map_cons,agnF]
    simp only [FN_eq] at ih ⊢
    have a1 : ((atL n0 o).map (LV.int .i64))[P[k].1]? = some (.int .i64 (plc o (P[k].1 : Int))) := by rw [List.getElem?_map,atL_at _ _ _ hlt.1]; rfl
    have a2 : ((atL n0 o).map (LV.int .i64))[P[k].2]? = some (.int .i64 (plc o (P[k].2 : Int))) := by rw [List.getElem?_map,atL_at _ _ _ hlt.2]; rfl
    have hwl : ((atL n0 o).map (LV.int .i64)).length = n0 := by rw [List.length_map,atL_len]
    have hu1 := unders_int .i64 1 (atL n0 o)
    have hu3 := unders_int .i64 3 (atL n0 o)
    generalize (atL n0 o).map (LV.int .i64) = w at *
    have b0 := fun f => BM_0f w d out f
    by_cases c : plc o (P[k].2 : Int) < plc o (P[k].1 : Int)
    · obtain ⟨d',hd',ap⟩ := BM_app w d [.int .i64 (P[k].1 : Int),.int .i64 (P[k].2 : Int)] out (k : Int) (by omega)
      rw [if_pos (by simpa [castP] using c)]
      have hd3 : LV.unders 3 d' = true := by
        rcases hd' with rfl | rfl
        · rfl
        · exact hd
      obtain ⟨d2,ih⟩ := ih (k + 1) d' (out ++ [(k : Int)]) (by omega) (by simp; omega) hd3
      rw [List.append_assoc,List.singleton_append] at ih
      refine ⟨d2,?_⟩
      have htr := BM_trim2 w d d' [.int .i64 (P[k].1 : Int),.int .i64 (P[k].2 : Int)] out (k : Int) hd3 hu3 n0 (.lst nl ex sz P.length (pcI (P.map castP))) (fun _ => rfl) (P.length : Int) ((k + 1 : Nat) : Int)
      generalize (if out = [] then ([] : LMem) else [⟨[.int .i64 (P[k].1 : Int),.int .i64 (P[k].2 : Int)],true⟩]) = tl at *
      simp only [ring_Against.B1,exF_seq,exF_region,exF_block,exF_cond,exF_skip,runL,wantL,stepL,evL,evC,LEnv.at,putL,loadFine,loadL,cellsAt,Trk.putNew,Trk.up,Trk.touch,Trk.gives,Trk.calm,Trk.hit,opdsOf,Trk.fresh,LEnv.keep,List.map_cons,List.map_nil,nbeq,nble,nblt,ofAV,ofAVs,bin_add,bin_lss,natL_nat,natL_zero,natL_one,List.any_cons,List.any_nil,Bool.or_false,Bool.or_true,Bool.and_true,Bool.false_and,Bool.not_true,Bool.not_false,Nat.reduceEqDiff,decide_true,decide_false,cond_true,cond_false,List.filter_nil,Nat.reduceAdd,Nat.reduceLeDiff,reduceCtorEq,List.length_nil,List.length_cons,Nat.mul_one,eq_self,List.append_nil,List.nil_append,views_pures,LV.pures,LV.pure,freeze,Nat.reduceDiv,LV.cells,allocL,List.getElem?_cons_zero,List.getElem?_cons_succ,storeL,spliceL,List.take_zero,List.take_succ_cons,List.drop_zero,List.drop_succ_cons,List.drop_nil,List.take_nil,Nat.le_refl,LV.scalar,List.all_cons,List.all_nil,Nat.lt_add_one,Nat.reduceLT,fillL,List.length_append,show ((k : Int) < (P.length : Int)) by omega,h2,s0,ok,last_at,last_set,b0,hlt.1,hlt.2,hwl,Nat.zero_add,show ¬ ((BM w d out).length + 1 ≤ (BM w d out).length) by omega,a1,a2,c,ap,wrap_succ (show k + 1 < 9223372036854775808 by omega),envVals,htr,ih]
    · rw [if_neg (by simpa [castP] using c)]
      obtain ⟨d2,ih⟩ := ih (k + 1) d out (by omega) (by omega) hd
      refine ⟨d2,?_⟩
      have htr := BM_trim w d [.int .i64 (P[k].1 : Int),.int .i64 (P[k].2 : Int)] out hu1 hd hu3 n0 (.lst nl ex sz P.length (pcI (P.map castP))) (fun _ => rfl) (P.length : Int) ((k + 1 : Nat) : Int)
      simp only [ring_Against.B1,exF_seq,exF_region,exF_block,exF_cond,exF_skip,runL,wantL,stepL,evL,evC,LEnv.at,putL,loadFine,loadL,cellsAt,Trk.putNew,Trk.up,Trk.touch,Trk.gives,Trk.calm,Trk.hit,opdsOf,Trk.fresh,LEnv.keep,List.map_cons,List.map_nil,nbeq,nble,nblt,ofAV,ofAVs,bin_add,bin_lss,natL_nat,natL_zero,natL_one,List.any_cons,List.any_nil,Bool.or_false,Bool.or_true,Bool.and_true,Bool.false_and,Bool.not_true,Bool.not_false,Nat.reduceEqDiff,decide_true,decide_false,cond_true,cond_false,List.filter_nil,Nat.reduceAdd,Nat.reduceLeDiff,reduceCtorEq,List.length_nil,List.length_cons,Nat.mul_one,eq_self,List.append_nil,List.nil_append,LV.cells,allocL,List.getElem?_cons_zero,List.getElem?_cons_succ,storeL,spliceL,List.take_zero,List.take_succ_cons,List.drop_zero,List.drop_succ_cons,List.drop_nil,List.take_nil,Nat.le_refl,LV.scalar,List.all_cons,List.all_nil,Nat.lt_add_one,Nat.reduceLT,List.length_append,show ((k : Int) < (P.length : Int)) by omega,h2,s0,ok,last_at,last_set,b0,hlt.1,hlt.2,hwl,Nat.zero_add,show ¬ ((BM w d out).length + 1 ≤ (BM w d out).length) by omega,a1,a2,c,wrap_succ (show k + 1 < 9223372036854775808 by omega),envVals,htr,ih]
theorem agnP_c (nl ex nl' ex' : Bool) (sz sz' : Nat) (N : Int) (l : List (Int × Int)) (o : List Int) (hl : l.length < 1000) (ho : o.length < 1000) (m : LMem) :
    clF LP n_ring_Against [.int .i64 N,FL nl ex sz l,IL nl' ex' sz' o] m = some (.P,.tup [RL (againstV N l o).1,.int .i64 (againstV N l o).2],m) := by
  have hc := fun m => check_c nl ex sz N l (by omega) m
  have hp : LV.pures [LV.int .i64 N,FL nl ex sz l,IL nl' ex' sz' o] = true := by simp [LV.pures,LV.pure]
  unfold againstV
  by_cases h0 : chkF N l = 0
  · rw [if_pos h0]
    obtain ⟨n,P,rfl,rfl,G⟩ := good_of h0
    have hn : 1 ≤ n ∧ n ≤ 6 := ⟨G.pos,G.le6⟩
    by_cases h1 : (o.length : Int) = (n : Int)
    · rw [if_pos h1]
      obtain ⟨M,hlp⟩ := agn0_loop n hn nl ex nl' ex' sz sz' (P.map castP) o ho o.length 0 (by omega) (by simp)
      simp only [Int.natCast_zero,List.drop_zero,List.take_zero,atL_nil,h1] at hlp
      have hr := fun m => repeat_c n hn.2 m
      by_cases h2 : chkO (n : Int) [] o = 0
      · rw [if_pos h2]
        rw [if_pos h2] at hlp
        obtain ⟨d,h3⟩ := agn1_loop n hn nl ex sz P G o P.length 0 [] [] (by omega) (by simp) rfl
        rw [List.nil_append,List.drop_zero] at h3
        have h3 : exF LP ring_Against.L1 [(9,.sl 0 0 n n 0 1 n),(12,.lst true true 0 0 []),(54,FL nl ex sz (P.map castP)),(55,.int .i64 (((P.map castP).length : Nat) : Int)),(56,.int .i64 0)] [⟨(atL n o).map (LV.int .i64),true⟩] = some (.exit 4,[(12,GV 2 (agn (P.map castP) o))],BM ((atL n o).map (LV.int .i64)) d (agn (P.map castP) o)) := by
          rw [List.length_map]; exact h3
        refine call_Pv lp_ring_Against rfl hp (m1 := BM ((atL n o).map (LV.int .i64)) d (agn (P.map castP) o)) (v := .tup [GV 2 (agn (P.map castP) o),.int .i64 0]) ?_ (view_gv2 _ 2 _ _ rfl true fun c => by simp [BM,c]) m
        simp only [ring_Against,ring_Against.B,exF_seq,exF_region,exF_block,exF_cond,exF_ret,exF_skip,runL,wantL,stepL,evL,evC,LEnv.at,putL,loadFine,LEnv.keep,LEnv.ofFrom,List.map_cons,List.map_nil,nbeq,nble,ofAV,ofAVs,lenL,bin_neq,Bool.or_false,Bool.and_true,Nat.reduceEqDiff,decide_true,decide_false,cond_true,cond_false,Nat.reduceAdd,reduceCtorEq,List.length_nil,List.length_cons,Nat.mul_one,eq_self,retL,resultsL,resAllL,resOfL,List.append_nil,List.nil_append,not_true_eq_false,ne_eq,views_pures,LV.pures,LV.pure,freeze,Nat.reduceDiv,LV.cells,spliceL,List.take_zero,List.take_succ_cons,List.drop_succ_cons,List.drop_nil,List.take_nil,Nat.le_refl,fillL,hc,h0,h1,hr,hlp,h3]
        try rfl
      · rw [if_neg h2]
        rw [if_neg h2] at hlp
        refine call_P lp_ring_Against rfl hp (m1 := M) ?_ rfl m
        simp only [ring_Against,ring_Against.B,exF_seq,exF_region,exF_block,exF_cond,exF_skip,runL,wantL,stepL,evL,evC,LEnv.at,putL,loadFine,LEnv.keep,LEnv.ofFrom,List.map_cons,List.map_nil,nbeq,nble,ofAV,ofAVs,lenL,bin_neq,Bool.or_false,Bool.and_true,Nat.reduceEqDiff,decide_true,decide_false,cond_true,cond_false,Nat.reduceAdd,reduceCtorEq,List.length_nil,List.length_cons,Nat.mul_one,eq_self,retL,resultsL,resAllL,resOfL,List.append_nil,List.nil_append,not_true_eq_false,ne_eq,views_pures,LV.pures,LV.pure,freeze,Nat.reduceDiv,LV.cells,spliceL,List.take_zero,List.take_succ_cons,List.drop_succ_cons,List.drop_nil,List.take_nil,Nat.le_refl,fillL,hc,h0,h1,hr,hlp]
        try rfl
    · rw [if_neg h1]
      refine call_P lp_ring_Against rfl hp (m1 := []) ?_ rfl m
      simp only [ring_Against,ring_Against.B,exF_seq,exF_region,exF_block,exF_cond,exF_ret,runL,wantL,stepL,evL,evC,LEnv.at,putL,loadFine,LEnv.keep,LEnv.ofFrom,List.map_cons,List.map_nil,nbeq,ofAVs,lenL,bin_neq,Nat.reduceEqDiff,decide_true,decide_false,cond_true,cond_false,Nat.reduceAdd,reduceCtorEq,eq_self,retL,resultsL,resAllL,resOfL,List.append_nil,List.nil_append,not_true_eq_false,not_false_eq_true,ne_eq,hc,h0,h1]
      try rfl
  · rw [if_neg h0]
    refine call_P lp_ring_Against rfl hp (m1 := []) ?_ rfl m
    simp only [ring_Against,ring_Against.B,exF_seq,exF_region,exF_block,exF_cond,exF_ret,runL,wantL,stepL,evL,evC,LEnv.at,putL,loadFine,LEnv.keep,LEnv.ofFrom,List.map_cons,List.map_nil,nbeq,ofAVs,bin_neq,Nat.reduceEqDiff,decide_true,decide_false,cond_true,cond_false,Nat.reduceAdd,reduceCtorEq,eq_self,retL,resultsL,resAllL,resOfL,List.append_nil,List.nil_append,not_false_eq_true,ne_eq,hc,h0]
    try rfl
end Go.Am.Ring
set_option linter.unusedVariables false
set_option linter.unusedSimpArgs false
namespace Go.Am.Ring
def costN (P : List (Nat × Nat)) (f done : Nat) : Nat := P.countP fun p => p.1 == f && done.testBit p.2
def sumC (P : List (Nat × Nat)) (f done : Nat) : Nat → Nat
  | 0 => 0
  | k + 1 => sumC P f done k + if done.testBit k then P.count (f,k) else 0
theorem sumC_cons (a : Nat × Nat) (P : List (Nat × Nat)) (f done : Nat) : ∀ k,sumC (a :: P) f done k = sumC P f done k + if a.1 = f ∧ a.2 < k ∧ done.testBit a.2 = true then 1 else 0
  | 0 => by simp [sumC]
  | k + 1 => by
    rw [sumC,sumC,sumC_cons a P f done k,List.count_cons]
    obtain ⟨x,y⟩ := a
    by_cases c1 : x = f
    · subst c1
      by_cases c2 : y = k
      · subst c2
        cases hb : done.testBit y <;> simp [hb]
        omega
      · have e : y < k + 1 ↔ y < k := by omega
        have e2 : ((x,y) == (x,k)) = false := by simp [c2]
        simp only [e,e2]
        simp
        omega
    · have e2 : ((x,y) == (f,k)) = false := by simp [c1]
      simp only [e2,c1]
      simp
theorem sumC_cost (f done n : Nat) : ∀ (P : List (Nat × Nat)),(∀ p ∈ P,p.2 < n) → sumC P f done n = costN P f done
  | [],_ => by
    have : ∀ k,sumC [] f done k = 0 := by
      intro k
      induction k with
      | zero => rfl
      | succ k ih => simp [sumC,ih]
    rw [this]; rfl
  | a :: P,h => by
    have h1 := h a (by simp)
    rw [sumC_cons,sumC_cost f done n P fun p hp => h p (by simp [hp])]
    unfold costN
    rw [List.countP_cons]
    simp [h1]
theorem costN_le (P : List (Nat × Nat)) (f done : Nat) : costN P f done ≤ P.length := List.countP_le_length
def leftN (n done : Nat) : Nat := (List.range n).countP fun f => !done.testBit f
theorem leftN_succ (n done : Nat) : leftN (n + 1) done = leftN n done + if done.testBit n then 0 else 1 := by
  unfold leftN
  rw [List.range_succ,List.countP_append]
  cases h : done.testBit n <;> simp [h]
theorem or_bit (done f i : Nat) : (done ||| 2 ^ f).testBit i = (done.testBit i || decide (f = i)) := by
  rw [Nat.testBit_or,Nat.testBit_two_pow]
theorem leftN_next (done f : Nat) (hb : done.testBit f = false) : ∀ n,f < n → leftN n (done ||| 2 ^ f) + 1 = leftN n done
  | 0,h => by omega
  | n + 1,h => by
    rw [leftN_succ,leftN_succ,or_bit]
    by_cases c : f = n
    · subst c
      have : ∀ k,k ≤ f → leftN k (done ||| 2 ^ f) = leftN k done := by
        intro k
        induction k with
        | zero => intro _; rfl
        | succ k ih =>
          intro hk
          rw [leftN_succ,leftN_succ,or_bit,ih (by omega)]
          simp [show ¬ f = k by omega]
      rw [this f (Nat.le_refl _),hb]
      simp
    · have := leftN_next done f hb n (by omega)
      simp only [c,decide_false,Bool.or_false]
      omega
theorem leftN_zero (n done : Nat) (hd : done < 2 ^ n) : leftN n done = 0 ↔ done = 2 ^ n - 1 := by
  constructor
  · intro h
    apply Nat.eq_of_testBit_eq
    intro i
    rw [Nat.testBit_two_pow_sub_one]
    by_cases c : i < n
    · unfold leftN at h
      rw [List.countP_eq_zero] at h
      have := h i (List.mem_range.2 c)
      simpa [c] using this
    · rw [Nat.testBit_lt_two_pow (Nat.lt_of_lt_of_le hd (Nat.pow_le_pow_right (by omega) (by omega)))]
      simp [c]
  · rintro rfl
    unfold leftN
    rw [List.countP_eq_zero]
    intro i hi
    simp [Nat.testBit_two_pow_sub_one,List.mem_range.1 hi]
theorem leftN_le (n done : Nat) : leftN n done ≤ n := by
  have := List.countP_le_length (p := fun f => !done.testBit f) (l := List.range n)
  rw [List.length_range] at this
  exact this
theorem next_eq (done f : Nat) : (done ||| 2 ^ f = done) ↔ done.testBit f = true := by
  constructor
  · intro h
    have := or_bit done f f
    rw [h] at this
    simpa using this
  · intro h
    apply Nat.eq_of_testBit_eq
    intro i
    rw [or_bit]
    by_cases c : f = i
    · subst c; simp [h]
    · simp [c]
theorem next_lt (done f n : Nat) (hd : done < 2 ^ n) (hf : f < n) : done ||| 2 ^ f < 2 ^ n := Nat.or_lt_two_pow hd (Nat.pow_lt_pow_right (by omega) hf)
theorem next_gt (done f : Nat) (hb : done.testBit f = false) : done < done ||| 2 ^ f := by
  have h1 : done ≤ done ||| 2 ^ f := Nat.left_le_or
  have h2 : done ||| 2 ^ f ≠ done := fun c => by rw [(next_eq done f).1 c] at hb; cases hb
  omega
def anyM (_ _ : Nat) : Bool := true
def fstep (may : Nat → Nat → Bool) (P : List (Nat × Nat)) (done : Nat) (go : Nat → Nat × Nat) (acc : Nat × Nat) (f : Nat) : Nat × Nat :=
  if done.testBit f || !may f done then acc else
    if costN P f done + (go (done ||| 2 ^ f)).1 < acc.1 then (costN P f done + (go (done ||| 2 ^ f)).1,(go (done ||| 2 ^ f)).2)
    else if costN P f done + (go (done ||| 2 ^ f)).1 = acc.1 then (acc.1,acc.2 + (go (done ||| 2 ^ f)).2) else acc
def fwU (may : Nat → Nat → Bool) (P : List (Nat × Nat)) (n : Nat) : Nat → Nat → Nat × Nat
  | 0,_ => (0,1)
  | u + 1,done => (List.range n).foldl (fstep may P done (fwU may P n u)) (13,0)
def fwD (may : Nat → Nat → Bool) (P : List (Nat × Nat)) (n done : Nat) : Nat × Nat := fwU may P n (leftN n done) done
theorem fwD_all (may : Nat → Nat → Bool) (P : List (Nat × Nat)) (n : Nat) : fwD may P n (2 ^ n - 1) = (0,1) := by
  unfold fwD
  rw [(leftN_zero n (2 ^ n - 1) (by have := Nat.two_pow_pos n; omega)).2 rfl]
  rfl
theorem foldl_ext {α β : Type} (g h : β → α → β) : ∀ (l : List α) (b : β),(∀ b,∀ a ∈ l,g b a = h b a) → l.foldl g b = l.foldl h b
  | [],b,_ => rfl
  | a :: l,b,e => by
    rw [List.foldl_cons,List.foldl_cons,e b a (by simp)]
    exact foldl_ext g h l _ fun b a ha => e b a (by simp [ha])
theorem fwD_eq (may : Nat → Nat → Bool) (P : List (Nat × Nat)) (n done : Nat) (hd : done < 2 ^ n - 1) : fwD may P n done = (List.range n).foldl (fstep may P done (fwD may P n)) (13,0) := by
  unfold fwD
  have h0 : leftN n done ≠ 0 := fun c => by have := (leftN_zero n done (by omega)).1 c; omega
  obtain ⟨u,hu⟩ : ∃ u,leftN n done = u + 1 := ⟨leftN n done - 1,by omega⟩
  rw [hu,fwU]
  apply foldl_ext
  intro acc f hf
  have hf := List.mem_range.1 hf
  unfold fstep
  cases hb : done.testBit f
  · have := leftN_next done f hb n hf
    have e : leftN n (done ||| 2 ^ f) = u := by omega
    simp only [fwD,e]
  · simp
theorem fold_le (may : Nat → Nat → Bool) (P : List (Nat × Nat)) (done : Nat) (go : Nat → Nat × Nat) (B : Nat) (hgo : ∀ d,(go d).2 ≤ B) : ∀ (l : List Nat) (acc : Nat × Nat),(l.foldl (fstep may P done go) acc).1 ≤ acc.1 ∧ (l.foldl (fstep may P done go) acc).2 ≤ acc.2 + l.length * B
  | [],acc => by simp
  | f :: l,acc => by
    have ih := fold_le may P done go B hgo l (fstep may P done go acc f)
    have h1 : (fstep may P done go acc f).1 ≤ acc.1 ∧ (fstep may P done go acc f).2 ≤ acc.2 + B := by
      unfold fstep
      have := hgo (done ||| 2 ^ f)
      split
      · exact ⟨Nat.le_refl _,by omega⟩
      · split
        · rename_i h; exact ⟨Nat.le_of_lt h,by simp only; omega⟩
        · split
          · exact ⟨Nat.le_refl _,by simp only; omega⟩
          · exact ⟨Nat.le_refl _,by omega⟩
    rw [List.foldl_cons,List.length_cons,Nat.add_mul]
    exact ⟨by omega,by omega⟩
theorem fwU_le (may : Nat → Nat → Bool) (P : List (Nat × Nat)) (n : Nat) (hn : n ≤ 6) : ∀ (u done : Nat),(fwU may P n u done).1 ≤ 13 ∧ (fwU may P n u done).2 ≤ 6 ^ u
  | 0,done => by simp [fwU]
  | u + 1,done => by
    have h := fold_le may P done (fwU may P n u) (6 ^ u) (fun d => (fwU_le may P n hn u d).2) (List.range n) (13,0)
    rw [fwU]
    simp only [List.length_range,Nat.zero_add] at h
    refine ⟨h.1,Nat.le_trans h.2 ?_⟩
    rw [Nat.pow_succ,Nat.mul_comm]
    exact Nat.mul_le_mul_left _ hn
theorem fwD_le (may : Nat → Nat → Bool) (P : List (Nat × Nat)) (n : Nat) (hn : n ≤ 6) (done : Nat) : (fwD may P n done).1 ≤ 13 ∧ (fwD may P n done).2 ≤ 46656 := by
  have h := fwU_le may P n hn (leftN n done) done
  refine ⟨h.1,Nat.le_trans h.2 ?_⟩
  have h2 : 6 ^ leftN n done ≤ 6 ^ 6 := Nat.pow_le_pow_right (by omega) (Nat.le_trans (leftN_le n done) hn)
  have h3 : (6 : Nat) ^ 6 = 46656 := by decide
  rwa [h3] at h2
end Go.Am.Ring
set_option linter.unusedVariables false
set_option linter.unusedSimpArgs false
set_option maxRecDepth 10000
namespace Go.Am.Ring
open Go.Am.G
def ltL (P : List (Nat × Nat)) : List Int := (List.range 36).map fun i : Nat => ((P.count (i / 6,i % 6) : Nat) : Int)
theorem ltL_len (P : List (Nat × Nat)) : (ltL P).length = 36 := by simp [ltL]
theorem ltL_at (P : List (Nat × Nat)) (x y : Nat) (hx : x < 6) (hy : y < 6) : (ltL P)[x * 6 + y]? = some ((P.count (x,y) : Nat) : Int) := by
  have h1 : (x * 6 + y) / 6 = x := by omega
  have h2 : (x * 6 + y) % 6 = y := by omega
  simp [ltL,show x * 6 + y < 36 by omega,h1,h2]
theorem ltL_snoc (P : List (Nat × Nat)) (x y : Nat) (hx : x < 6) (hy : y < 6) : ltL (P ++ [(x,y)]) = (ltL P).set (x * 6 + y) (((P.count (x,y) : Nat) : Int) + 1) := by
  apply List.ext_getElem?
  intro i
  by_cases hi : i < 36
  · rw [List.getElem?_set,ltL_len]
    by_cases c : x * 6 + y = i
    · subst c
      rw [if_pos rfl,if_pos hi,ltL_at _ x y hx hy,List.count_append]
      simp
    · rw [if_neg c]
      simp only [ltL,List.getElem?_map,List.getElem?_range hi,Option.map_some,List.count_append]
      have : ((x,y) == (i / 6,i % 6)) = false := by
        rw [beq_eq_false_iff_ne]
        intro e
        simp only [Prod.mk.injEq] at e
        omega
      simp [List.count_cons,this]
  · rw [List.getElem?_eq_none (by rw [ltL_len]; omega),List.getElem?_eq_none (by simp [ltL_len]; omega)]
def cellsT (n : Nat) (lt : List Int) (may : LV) (fe wa : LV) : List LV := .int .i64 (n : Int) :: (lt.map (LV.int .i64) ++ [may,fe,wa])
theorem cT_len (n : Nat) (lt : List Int) (may fe wa : LV) (h : lt.length = 36) : (cellsT n lt may fe wa).length = 40 := by simp [cellsT,h]
theorem cT_0 (n : Nat) (lt : List Int) (may fe wa : LV) : (cellsT n lt may fe wa)[0]? = some (.int .i64 (n : Int)) := rfl
theorem cT_lt (n : Nat) (lt : List Int) (may fe wa : LV) (h : lt.length = 36) (i : Nat) (v : Int) (hi : lt[i]? = some v) : (cellsT n lt may fe wa)[1 + i]? = some (.int .i64 v) := by
  have hl : i < lt.length := by
    rcases Nat.lt_or_ge i lt.length with c | c
    · exact c
    · rw [List.getElem?_eq_none c] at hi; cases hi
  rw [cellsT,Nat.add_comm,List.getElem?_cons_succ,List.getElem?_append_left (by simpa using hl),List.getElem?_map,hi]
  rfl
theorem cT_38 (n : Nat) (lt : List Int) (may fe wa : LV) (h : lt.length = 36) : (cellsT n lt may fe wa)[38]? = some fe := by
  rw [cellsT,List.getElem?_cons_succ,List.getElem?_append_right (by simp [h])]
  simp [h]
theorem cT_39 (n : Nat) (lt : List Int) (may fe wa : LV) (h : lt.length = 36) : (cellsT n lt may fe wa)[39]? = some wa := by
  rw [cellsT,List.getElem?_cons_succ,List.getElem?_append_right (by simp [h])]
  simp [h]
theorem cT_set (n : Nat) (lt : List Int) (may fe wa : LV) (i : Nat) (v : Int) (hi : i < lt.length) : (cellsT n lt may fe wa).take (1 + i) ++ [.int .i64 v] ++ (cellsT n lt may fe wa).drop (1 + i + 1) = cellsT n (lt.set i v) may fe wa := by
  have := set_int .i64 lt i v hi
  unfold cellsT
  rw [show 1 + i = i + 1 by omega,List.take_succ_cons,List.drop_succ_cons,List.take_append,List.drop_append,← this]
  simp [show i - lt.length = 0 by omega,show i + 1 - lt.length = 0 by omega]
theorem bit_dec (d y : Nat) : decide (((d / 2 ^ y % 2 : Nat) : Int) = 1) = d.testBit y := by
  rw [Nat.testBit_eq_decide_div_mod_eq,decide_eq_decide]
  omega
theorem costT_loop (P : List (Nat × Nat)) (hP : P.length ≤ 12) (n0 : Nat) (hn : n0 ≤ 6) (form done : Nat) (hf : form < 6) (hd : done < 64) (may fe wa : LV) (i : Nat) (M : LMem) (b : Bool) (hM : M[i]? = some ⟨cellsT n0 (ltL P) may fe wa,b⟩) (n : Nat) : ∀ (y : Nat),y + n = n0 → sumC P form done y ≤ y * 12 →
    exF LP ring_table_cost.L0 [(0,.ptr i 0 40),(1,.int .i64 (form : Int)),(2,.int .i64 (done : Int)),(7,.int .i64 ((sumC P form done y : Nat) : Int)),(12,.int .i64 (n0 : Int)),(13,.int .i64 (y : Int))] M = some (.exit 0,[(7,.int .i64 ((sumC P form done n0 : Nat) : Int))],M) := by
  have hlen := cT_len n0 (ltL P) may fe wa (ltL_len P)
  induction n with
  | zero =>
    intro y hy _
    obtain rfl : y = n0 := by omega
    rw [ring_table_cost.L0_eq]
    simp only [ring_table_cost.B0,exF_seq,exF_region,exF_cond,exF_exit,runL,wantL,stepL,evL,LEnv.at,putL,loadFine,LEnv.keep,List.map_cons,List.map_nil,nbeq,bin_lss,Nat.reduceEqDiff,decide_true,decide_false,cond_true,cond_false,reduceCtorEq,eq_self,show ¬ ((y : Int) < (y : Int)) by omega]
  | succ n ih =>
    intro y hy hs
    have hcnt : P.count (form,y) ≤ 12 := Nat.le_trans List.count_le_length hP
    have ih := ih (y + 1) (by omega) (by rw [sumC]; split <;> omega)
    rw [sumC] at ih
    have h1 := sshr (a := done) (i := y) (by omega)
    have h2 := sand1 (a := done / 2 ^ y) (Nat.lt_of_le_of_lt (Nat.div_le_self _ _) (by omega))
    have hat := cT_lt n0 (ltL P) may fe wa (ltL_len P) (form * 6 + y) _ (ltL_at P form y hf (by omega))
    rw [← Nat.add_assoc] at hat
    rw [ring_table_cost.L0_eq]
    cases hb : done.testBit y
    · rw [hb] at ih
      simp only [Bool.false_eq_true,if_false,Nat.add_zero] at ih
      have hbd := bit_dec done y
      rw [hb] at hbd
      simp only [ring_table_cost.B0,exF_seq,exF_region,exF_block,exF_cond,exF_skip,runL,wantL,stepL,evL,evC,LEnv.at,putL,loadFine,LEnv.keep,List.map_cons,List.map_nil,nbeq,bin_add,bin_eql,bin_lss,Nat.reduceEqDiff,decide_true,decide_false,cond_true,cond_false,reduceCtorEq,eq_self,show ((y : Int) < (n0 : Int)) by omega,h1,h2,hbd,wrap_succ (show y + 1 < 9223372036854775808 by omega),ih]
    · rw [hb] at ih
      simp only [if_true] at ih
      have hbd := bit_dec done y
      rw [hb] at hbd
      have hw : IntKind.i64.wrap (((sumC P form done y : Nat) : Int) + ((P.count (form,y) : Nat) : Int)) = ((sumC P form done y + P.count (form,y) : Nat) : Int) := by rw [wrap_in (by omega)]; omega
      simp only [ring_table_cost.B0,exF_seq,exF_region,exF_block,exF_cond,exF_skip,runL,wantL,stepL,evL,evC,LEnv.at,putL,loadFine,loadL,cellsAt,Trk.putNew,Trk.up,Trk.touch,Trk.gives,Trk.calm,Trk.hit,opdsOf,Trk.fresh,LEnv.keep,List.map_cons,List.map_nil,nbeq,nble,nblt,bin_add,bin_eql,bin_lss,natL_nat,List.any_cons,List.any_nil,Bool.or_false,Bool.false_or,Bool.true_or,Bool.and_true,Nat.reduceEqDiff,decide_true,decide_false,cond_true,cond_false,List.filter_nil,Nat.reduceAdd,Nat.reduceLeDiff,reduceCtorEq,Nat.mul_one,eq_self,show ((y : Int) < (n0 : Int)) by omega,h1,h2,hbd,hM,hlen,hf,show y < 6 by omega,Nat.zero_add,hat,hw,wrap_succ (show y + 1 < 9223372036854775808 by omega),ih]
theorem costT_c (P : List (Nat × Nat)) (hP : P.length ≤ 12) (n0 : Nat) (hn : n0 ≤ 6) (hlt : ∀ p ∈ P,p.2 < n0) (form done : Nat) (hf : form < 6) (hd : done < 64) (may fe wa : LV) (i : Nat) (M : LMem) (b : Bool) (hM : M[i]? = some ⟨cellsT n0 (ltL P) may fe wa,b⟩) :
    clF LP n_ring_table_cost [.ptr i 0 40,.int .i64 (form : Int),.int .i64 (done : Int)] M = some (.R,.int .i64 ((costN P form done : Nat) : Int),M) := by
  have hM' : (roM M)[i]? = some ⟨cellsT n0 (ltL P) may fe wa,false⟩ := by simp [roM,hM]
  have hlen := cT_len n0 (ltL P) may fe wa (ltL_len P)
  have h0 := cT_0 n0 (ltL P) may fe wa
  have h := costT_loop P hP n0 hn form done hf hd may fe wa i (roM M) false hM' n0 0 (by omega) (by simp [sumC])
  simp only [Int.natCast_zero,sumC] at h
  refine call_R lp_ring_table_cost rfl (m1 := roM M) ?_ rfl
  rw [← sumC_cost form done n0 P hlt]
  simp only [ring_table_cost,ring_table_cost.B,exF_seq,exF_region,exF_block,exF_ret,runL,wantL,stepL,evL,evC,LEnv.at,putL,loadFine,loadL,cellsAt,Trk.putNew,Trk.up,Trk.touch,Trk.gives,Trk.calm,Trk.hit,opdsOf,Trk.fresh,LEnv.keep,LEnv.ofFrom,List.map_cons,List.map_nil,nbeq,nble,List.any_cons,List.any_nil,Bool.or_false,Bool.false_or,Bool.true_or,Bool.and_true,Nat.reduceEqDiff,decide_true,decide_false,cond_true,cond_false,List.filter_nil,Nat.reduceAdd,Nat.reduceLeDiff,reduceCtorEq,eq_self,retL,resultsL,resAllL,resOfL,List.drop_zero,hM',hlen,h0,h]
end Go.Am.Ring
set_option linter.unusedVariables false
set_option linter.unusedSimpArgs false
set_option maxRecDepth 10000
namespace Go.Am.Ring
open Go.Am.G
def TM (F W : List Int) (n : Nat) (P : List (Nat × Nat)) (may : LV) (S : Nat) : LMem :=
  [⟨F.map (LV.int .i64),true⟩,⟨W.map (LV.int .i64),true⟩,⟨cellsT n (ltL P) may (.sl 0 0 S S 0 1 S) (.sl 1 0 S S 0 1 S),true⟩]
theorem unders_app (k : Nat) : ∀ (a b : List LV),LV.unders k (a ++ b) = (LV.unders k a && LV.unders k b)
  | [],b => by simp [LV.unders]
  | x :: a,b => by simp [LV.unders,unders_app k a b,Bool.and_assoc]
theorem cT_under (n : Nat) (lt : List Int) (may : LV) (S k : Nat) (hk : 2 ≤ k) (hm : LV.under k may = true) : LV.unders k (cellsT n lt may (.sl 0 0 S S 0 1 S) (.sl 1 0 S S 0 1 S)) = true := by
  have h1 : Nat.blt 0 k = true := by rw [nblt]; simp; omega
  have h2 : Nat.blt 1 k = true := by rw [nblt]; simp; omega
  simp [cellsT,LV.unders,LV.under,unders_app,unders_int,hm,h1,h2]
theorem TM_trim (F W : List Int) (n : Nat) (P : List (Nat × Nat)) (may : LV) (S : Nat) (hm : LV.under 3 may = true) (vs : List LV) (hv : LV.unders 3 vs = true) (f : LBlk) : trim 3 vs (TM F W n P may S ++ [f]) = TM F W n P may S := by
  have h := cT_under n (ltL P) may S 3 (by omega) hm
  simp [trim,TM,belowM,unders_int,hv,h]
theorem trim_three (vs : List LV) (a b c : LBlk) : trim 3 vs [a,b,c] = [a,b,c] := trim_le 3 vs _ (by simp)
theorem set_at (L : List Int) (i : Nat) (v : Int) (h : i < L.length) : ((L.set i v).map (LV.int .i64))[i]? = some (.int .i64 v) := by simp [h]
theorem set_other (L : List Int) (i j : Nat) (v w : Int) (hj : L[j]? = some w) (h : i ≠ j) : ((L.set i v).map (LV.int .i64))[j]? = some (.int .i64 w) := by
  rw [List.getElem?_map,List.getElem?_set,if_neg h,hj]; rfl
theorem set_again (L : List Int) (i : Nat) (v u : Int) (h : i < L.length) : ((L.set i v).map (LV.int .i64)).take i ++ [.int .i64 u] ++ ((L.set i v).map (LV.int .i64)).drop (i + 1) = (L.set i u).map (LV.int .i64) := by
  rw [set_int .i64 (L.set i v) i u (by simpa using h),List.set_set]
theorem set_mlen (L : List Int) (i : Nat) (v : Int) : ((L.set i v).map (LV.int .i64)).length = L.length := by simp
theorem fill0_loop (n0 : Nat) (g : Nat) (first cap : List LV) (hm : LV.under 3 (.func g first cap) = true) (F W : List Int) (S : Nat) (all : Int) (nl ex : Bool) (sz : Nat) (P : List (Nat × Nat)) (G : Good n0 P) (n : Nat) : ∀ (k : Nat),k + n = P.length →
    exF LP ring_filled.L0 [(0,.int .i64 (n0 : Int)),(2,.func g first cap),(7,.int .i64 all),(8,.ptr 2 0 40),(28,FN nl ex sz P),(29,.int .i64 (P.length : Int)),(30,.int .i64 (k : Int))] (TM F W n0 (P.take k) (.func g first cap) S) =
      some (.exit 0,[(0,.int .i64 (n0 : Int)),(2,.func g first cap),(7,.int .i64 all),(8,.ptr 2 0 40)],TM F W n0 P (.func g first cap) S) := by
  have h6 := G.le6
  have h12 := G.le12
  induction n with
  | zero =>
    intro k hk
    rw [ring_filled.L0_eq]
    simp only [ring_filled.B0,exF_seq,exF_region,exF_cond,exF_exit,runL,wantL,stepL,evL,LEnv.at,putL,loadFine,LEnv.keep,List.map_cons,List.map_nil,nbeq,bin_lss,Nat.reduceEqDiff,decide_true,decide_false,cond_true,cond_false,reduceCtorEq,eq_self,show ¬ ((k : Int) < (P.length : Int)) by omega,List.take_of_length_le (show P.length ≤ k by omega)]
  | succ n ih =>
    intro k hk
    have h2 : k < P.length := by omega
    have hlt := G.lt _ (List.getElem_mem h2)
    have s0 := pcN_seg P k h2
    have ok := pcN_ok P k h2
    have ih := ih (k + 1) (by omega)
    rw [take_snoc P k h2] at ih
    rw [ring_filled.L0_eq]
    simp only [FN_eq] at ih ⊢
    generalize P[k] = pk at *
    obtain ⟨x,y⟩ := pk
    simp only [] at hlt s0
    have hsn := ltL_snoc (P.take k) x y (by omega) (by omega)
    have hat0 := ltL_at (P.take k) x y (by omega) (by omega)
    have hcnt : (P.take k).count (x,y) ≤ 12 := Nat.le_trans List.count_le_length (by simp; omega)
    have htr := fun vs hv f => TM_trim F W n0 (P.take k ++ [(x,y)]) (.func g first cap) S hm vs hv f
    have hll := ltL_len (P.take k)
    have hw : IntKind.i64.wrap ((((P.take k).count (x,y) : Nat) : Int) + 1) = (((P.take k).count (x,y) : Nat) : Int) + 1 := wrap_in (by omega)
    simp only [TM] at ih htr ⊢
    rw [hsn] at ih htr
    generalize ltL (P.take k) = lt at *
    generalize (((P.take k).count (x,y) : Nat) : Int) = c at *
    have hat := cT_lt n0 lt (.func g first cap) (.sl 0 0 S S 0 1 S) (.sl 1 0 S S 0 1 S) hll (x * 6 + y) _ hat0
    have hset := cT_set n0 lt (.func g first cap) (.sl 0 0 S S 0 1 S) (.sl 1 0 S S 0 1 S) (x * 6 + y) (c + 1) (by omega)
    have hlen := cT_len n0 lt (.func g first cap) (.sl 0 0 S S 0 1 S) (.sl 1 0 S S 0 1 S) hll
    rw [← Nat.add_assoc] at hat hset
    have htr := htr [.int .i64 (n0 : Int),.func g first cap,.int .i64 all,.ptr 2 0 40,.lst nl ex sz P.length (pcI (P.map castP)),.int .i64 (P.length : Int),.int .i64 ((k + 1 : Nat) : Int)] (by
      simp only [LV.under] at hm
      simp [LV.unders,LV.under,hm,nblt]) ⟨[.int .i64 (x : Int),.int .i64 (y : Int)],true⟩
    simp only [List.cons_append,List.nil_append] at htr
    generalize cellsT n0 lt (.func g first cap) (.sl 0 0 S S 0 1 S) (.sl 1 0 S S 0 1 S) = T at *
    generalize cellsT n0 (lt.set (x * 6 + y) (c + 1)) (.func g first cap) (.sl 0 0 S S 0 1 S) (.sl 1 0 S S 0 1 S) = T' at *
    simp only [ring_filled.B0,exF_seq,exF_region,exF_block,exF_cond,exF_skip,runL,wantL,stepL,evL,evC,LEnv.at,putL,loadFine,loadL,cellsAt,Trk.putNew,Trk.up,Trk.touch,Trk.gives,Trk.calm,Trk.hit,opdsOf,Trk.fresh,LEnv.keep,List.map_cons,List.map_nil,nbeq,nble,nblt,ofAV,ofAVs,bin_add,bin_lss,natL_nat,natL_zero,natL_one,List.any_cons,List.any_nil,Bool.or_false,Bool.or_true,Bool.and_true,Bool.false_and,Bool.not_true,Bool.not_false,Nat.reduceEqDiff,decide_true,decide_false,cond_true,cond_false,List.filter_nil,Nat.reduceAdd,Nat.reduceLeDiff,reduceCtorEq,List.length_nil,List.length_cons,Nat.mul_one,eq_self,List.append_nil,List.nil_append,List.cons_append,LV.cells,allocL,List.getElem?_cons_zero,List.getElem?_cons_succ,storeL,spliceL,List.take_zero,List.take_succ_cons,List.drop_zero,List.drop_succ_cons,List.drop_nil,List.take_nil,Nat.le_refl,List.set_cons_zero,List.set_cons_succ,LV.scalar,List.all_cons,List.all_nil,Nat.lt_add_one,Nat.reduceLT,show ((k : Int) < (P.length : Int)) by omega,h2,s0,ok,show x < 6 by omega,show y < 6 by omega,Nat.zero_add,hlen,hat,hw,hset,show 1 + x * 6 + y + 1 ≤ 40 by omega,wrap_succ (show k + 1 < 9223372036854775808 by omega),envVals,htr,ih]
theorem fill1_loop (n0 : Nat) (hn : 1 ≤ n0 ∧ n0 ≤ 6) (P : List (Nat × Nat)) (hP : P.length ≤ 12) (hlt : ∀ p ∈ P,p.2 < n0) (g : Nat) (first cap : List LV) (may : Nat → Nat → Bool)
    (hmay : ∀ (f d : Nat) m,f < n0 → d < 2 ^ n0 → clF LP g (first ++ ([.int .i64 (f : Int),.int .i64 (d : Int)] ++ cap)) m = some (.P,.bool (may f d),m))
    (F W : List Int) (S : Nat) (hS : S = 2 ^ n0) (hF : F.length = S) (hW : W.length = S) (done : Nat) (hd : done < S)
    (hFn : ∀ d,done < d → d < S → F[d]? = some (((fwD may P n0 d).1 : Nat) : Int)) (hWn : ∀ d,done < d → d < S → W[d]? = some (((fwD may P n0 d).2 : Nat) : Int)) (n : Nat) : ∀ (f : Nat) (acc : Nat × Nat),f + n = n0 → acc = (List.range f).foldl (fstep may P done (fwD may P n0)) (13,0) → acc.1 ≤ 13 → acc.2 ≤ f * 46656 →
    exF LP ring_filled.L1 [(0,.int .i64 (n0 : Int)),(2,.func g first cap),(8,.ptr 2 0 40),(11,.int .i64 (done : Int)),(68,.int .i64 (n0 : Int)),(69,.int .i64 (f : Int))] (TM (F.set done ((acc.1 : Nat) : Int)) (W.set done ((acc.2 : Nat) : Int)) n0 P (.func g first cap) S) =
      some (.exit 4,[(0,.int .i64 (n0 : Int)),(2,.func g first cap),(8,.ptr 2 0 40),(11,.int .i64 (done : Int))],TM (F.set done ((((List.range n0).foldl (fstep may P done (fwD may P n0)) (13,0)).1 : Nat) : Int)) (W.set done ((((List.range n0).foldl (fstep may P done (fwD may P n0)) (13,0)).2 : Nat) : Int)) n0 P (.func g first cap) S) := by
  have hS64 : S ≤ 64 := by
    have : 2 ^ n0 ≤ 2 ^ 6 := Nat.pow_le_pow_right (by omega) hn.2
    omega
  induction n with
  | zero =>
    intro f acc hf ha _ _
    obtain rfl : f = n0 := by omega
    rw [ring_filled.L1_eq,← ha]
    simp only [ring_filled.B1,exF_seq,exF_region,exF_cond,exF_exit,runL,wantL,stepL,evL,LEnv.at,putL,loadFine,LEnv.keep,List.map_cons,List.map_nil,nbeq,bin_lss,Nat.reduceEqDiff,decide_true,decide_false,cond_true,cond_false,reduceCtorEq,eq_self,show ¬ ((f : Int) < (f : Int)) by omega]
  | succ n ih =>
    intro f acc hf ha hb1 hb2
    have hfn : f < n0 := by omega
    have ih := fun acc' => ih (f + 1) acc' (by omega)
    rw [List.range_succ,List.foldl_append,List.foldl_cons,List.foldl_nil,← ha] at ih
    have hb3 : acc.2 ≤ (f + 1) * 46656 := Nat.le_trans hb2 (Nat.mul_le_mul_right _ (Nat.le_succ f))
    have hfi : (f : Int) < (n0 : Int) := Int.ofNat_lt.2 hfn
    have hw1 : IntKind.i64.wrap ((f : Int) + 1) = ((f + 1 : Nat) : Int) := wrap_succ (by omega)
    have hsl := sshl (i := f) (by omega)
    have hp2 : (2 : Nat) ^ f < 64 := Nat.lt_of_lt_of_le (Nat.pow_lt_pow_right (by omega) hfn) (by omega)
    have hor := sor (a := done) (b := 2 ^ f) (by omega) (by omega)
    have hnl := next_lt done f n0 (by omega) hfn
    have hmf := hmay f done
    have hct := fun M (hM : M[2]? = some ⟨cellsT n0 (ltL P) (.func g first cap) (.sl 0 0 S S 0 1 S) (.sl 1 0 S S 0 1 S),true⟩) => costT_c P hP n0 hn.2 hlt f done (by omega) (by omega) (.func g first cap) (.sl 0 0 S S 0 1 S) (.sl 1 0 S S 0 1 S) 2 M true hM
    have h38 := cT_38 n0 (ltL P) (.func g first cap) (.sl 0 0 S S 0 1 S) (.sl 1 0 S S 0 1 S) (ltL_len P)
    have h39 := cT_39 n0 (ltL P) (.func g first cap) (.sl 0 0 S S 0 1 S) (.sl 1 0 S S 0 1 S) (ltL_len P)
    have hlen := cT_len n0 (ltL P) (.func g first cap) (.sl 0 0 S S 0 1 S) (.sl 1 0 S S 0 1 S) (ltL_len P)
    have hcl := costN_le P f done
    rw [ring_filled.L1_eq]
    simp only [List.cons_append,List.nil_append] at hmf
    cases hb : done.testBit f
    · have hne : ¬ (done ||| 2 ^ f = done) := fun c => by rw [(next_eq done f).1 c] at hb; cases hb
      have hnei : ¬ (((done ||| 2 ^ f : Nat) : Int) = (done : Int)) := by omega
      have hgt := next_gt done f hb
      have hFN := hFn _ hgt (by omega)
      have hWN := hWn _ hgt (by omega)
      have hle := fwD_le may P n0 hn.2 (done ||| 2 ^ f)
      have hmf := fun m => hmf m hfn (by omega)
      cases hm : may f done
      · rw [hm] at hmf
        have ih := ih acc (by simp [fstep,hb,hm]) hb1 hb3
        simp only [TM] at ih ⊢
        simp only [ring_filled.B1,beqF,exF_seq,exF_region,exF_block,exF_cond,exF_exit,exF_skip,runL,wantL,stepL,evL,evC,LEnv.at,putL,loadFine,LEnv.keep,List.map_cons,List.map_nil,nbeq,bin_add,bin_eql,bin_lss,Bool.not_false,Nat.reduceEqDiff,decide_true,decide_false,cond_true,cond_false,Nat.reduceAdd,reduceCtorEq,List.length_nil,List.length_cons,eq_self,List.nil_append,List.cons_append,unL,hfi,hsl,hor,hnei,hmf,trim_three,hw1,ih]
      · rw [hm] at hmf
        have hfs : fstep may P done (fwD may P n0) acc f = if costN P f done + (fwD may P n0 (done ||| 2 ^ f)).1 < acc.1 then (costN P f done + (fwD may P n0 (done ||| 2 ^ f)).1,(fwD may P n0 (done ||| 2 ^ f)).2)
            else if costN P f done + (fwD may P n0 (done ||| 2 ^ f)).1 = acc.1 then (acc.1,acc.2 + (fwD may P n0 (done ||| 2 ^ f)).2) else acc := by simp [fstep,hb,hm]
        have a1 := fun v => set_at F done v (by omega)
        have a2 := fun v => set_other F done _ v _ hFN (by omega)
        have a3 := fun v => set_mlen F done v
        have a4 := fun v u => set_again F done v u (by omega)
        have b1 := fun v => set_at W done v (by omega)
        have b2 := fun v => set_other W done _ v _ hWN (by omega)
        have b3 := fun v => set_mlen W done v
        have b4 := fun v u => set_again W done v u (by omega)
        rw [hF] at a3
        rw [hW] at b3
        have hwc : IntKind.i64.wrap (((costN P f done : Nat) : Int) + (((fwD may P n0 (done ||| 2 ^ f)).1 : Nat) : Int)) = ((costN P f done + (fwD may P n0 (done ||| 2 ^ f)).1 : Nat) : Int) := by rw [wrap_in (by omega)]; omega
        have hww : IntKind.i64.wrap (((acc.2 : Nat) : Int) + (((fwD may P n0 (done ||| 2 ^ f)).2 : Nat) : Int)) = ((acc.2 + (fwD may P n0 (done ||| 2 ^ f)).2 : Nat) : Int) := by
          have : f * 46656 ≤ 6 * 46656 := Nat.mul_le_mul_right _ (by omega)
          rw [wrap_in (by omega)]; omega
        have hw0 : IntKind.i64.wrap (0 + (((fwD may P n0 (done ||| 2 ^ f)).2 : Nat) : Int)) = (((fwD may P n0 (done ||| 2 ^ f)).2 : Nat) : Int) := by rw [wrap_in (by omega)]; omega
        have h4 : (f + 1) * 46656 = f * 46656 + 46656 := by rw [Nat.add_mul,Nat.one_mul]
        have hdi : done + 1 ≤ S := by omega
        have hnS : done ||| 2 ^ f < S := by rw [hS]; exact hnl
        generalize (fwD may P n0 (done ||| 2 ^ f)).1 = u1 at *
        generalize (fwD may P n0 (done ||| 2 ^ f)).2 = u2 at *
        generalize costN P f done = cst at *
        rcases Nat.lt_trichotomy (cst + u1) acc.1 with hc | hc | hc
        · rw [if_pos hc] at hfs
          have ih := ih _ hfs.symm (by simp only; omega) (by simp only; rw [h4]; exact Nat.le_trans hle.2 (Nat.le_add_left _ _))
          have hci : ((cst + u1 : Nat) : Int) < ((acc.1 : Nat) : Int) := by omega
          simp only [TM] at ih ⊢
          simp only [ring_filled.B1,beqF,exF_seq,exF_region,exF_block,exF_cond,exF_skip,runL,wantL,stepL,evL,evC,LEnv.at,putL,loadFine,loadL,cellsAt,Trk.putNew,Trk.up,Trk.touch,Trk.gives,Trk.calm,Trk.hit,opdsOf,Trk.fresh,LEnv.keep,List.map_cons,List.map_nil,nbeq,nble,nblt,ofAVs,bin_add,bin_eql,bin_lss,natL_nat,List.any_cons,List.any_nil,Bool.or_false,Bool.or_true,Bool.and_true,Bool.false_and,Bool.not_true,Bool.not_false,Nat.reduceEqDiff,decide_true,decide_false,cond_true,cond_false,List.filter_nil,List.filter_cons,Nat.reduceAdd,Nat.reduceLeDiff,reduceCtorEq,List.length_nil,List.length_cons,Nat.mul_one,if_true,eq_self,List.append_nil,List.nil_append,List.cons_append,unL,LV.cells,List.getElem?_cons_zero,List.getElem?_cons_succ,storeL,spliceL,Nat.le_refl,List.set_cons_zero,List.set_cons_succ,LV.scalar,List.all_cons,List.all_nil,hfi,hsl,hor,hnei,hmf,hct,h38,h39,hlen,a1,a2,a3,a4,b1,b2,b3,b4,Nat.zero_add,hwc,hw0,hci,hnS,hd,hdi,trim_three,hw1,ih]
        · rw [if_neg (by omega),if_pos hc] at hfs
          have ih := ih _ hfs.symm hb1 (by simp only; rw [h4]; exact Nat.add_le_add hb2 hle.2)
          have hci : ¬ ((cst + u1 : Nat) : Int) < ((acc.1 : Nat) : Int) := by omega
          have hce : ((cst + u1 : Nat) : Int) = ((acc.1 : Nat) : Int) := by omega
          simp only [TM] at ih ⊢
          simp only [ring_filled.B1,beqF,exF_seq,exF_region,exF_block,exF_cond,exF_skip,runL,wantL,stepL,evL,evC,LEnv.at,putL,loadFine,loadL,cellsAt,Trk.putNew,Trk.up,Trk.touch,Trk.gives,Trk.calm,Trk.hit,opdsOf,Trk.fresh,LEnv.keep,List.map_cons,List.map_nil,nbeq,nble,nblt,ofAVs,bin_add,bin_eql,bin_lss,natL_nat,List.any_cons,List.any_nil,Bool.or_false,Bool.or_true,Bool.and_true,Bool.false_and,Bool.not_true,Bool.not_false,Nat.reduceEqDiff,decide_true,decide_false,cond_true,cond_false,List.filter_nil,List.filter_cons,Nat.reduceAdd,Nat.reduceLeDiff,reduceCtorEq,List.length_nil,List.length_cons,Nat.mul_one,if_true,eq_self,List.append_nil,List.nil_append,List.cons_append,unL,LV.cells,List.getElem?_cons_zero,List.getElem?_cons_succ,storeL,spliceL,Nat.le_refl,List.set_cons_zero,List.set_cons_succ,LV.scalar,List.all_cons,List.all_nil,hfi,hsl,hor,hnei,hmf,hct,h38,h39,hlen,a1,a2,a3,b1,b2,b3,b4,Nat.zero_add,hwc,hww,hce,Int.lt_irrefl,hnS,hd,hdi,trim_three,hw1,ih]
        · rw [if_neg (by omega),if_neg (by omega)] at hfs
          have ih := ih _ hfs.symm hb1 hb3
          have hci : ¬ ((cst + u1 : Nat) : Int) < ((acc.1 : Nat) : Int) := by omega
          have hce : ¬ ((cst + u1 : Nat) : Int) = ((acc.1 : Nat) : Int) := by omega
          simp only [TM] at ih ⊢
          simp only [ring_filled.B1,beqF,exF_seq,exF_region,exF_block,exF_cond,exF_skip,runL,wantL,stepL,evL,evC,LEnv.at,putL,loadFine,loadL,cellsAt,Trk.putNew,Trk.up,Trk.touch,Trk.gives,Trk.calm,Trk.hit,opdsOf,Trk.fresh,LEnv.keep,List.map_cons,List.map_nil,nbeq,nble,nblt,ofAVs,bin_add,bin_eql,bin_lss,natL_nat,List.any_cons,List.any_nil,Bool.or_false,Bool.or_true,Bool.and_true,Bool.false_and,Bool.not_true,Bool.not_false,Nat.reduceEqDiff,decide_true,decide_false,cond_true,cond_false,List.filter_nil,List.filter_cons,Nat.reduceAdd,Nat.reduceLeDiff,reduceCtorEq,List.length_nil,List.length_cons,Nat.mul_one,if_true,eq_self,List.append_nil,List.nil_append,List.cons_append,unL,List.getElem?_cons_zero,List.getElem?_cons_succ,Nat.le_refl,hfi,hsl,hor,hnei,hmf,hct,h38,hlen,a1,a2,a3,Nat.zero_add,hwc,hci,hce,hnS,hd,hdi,trim_three,hw1,ih]
    · have he := (next_eq done f).2 hb
      rw [he] at hor
      have ih := ih acc (by simp [fstep,hb]) hb1 hb3
      simp only [TM] at ih ⊢
      simp only [ring_filled.B1,beqF,exF_seq,exF_region,exF_block,exF_cond,exF_exit,exF_skip,runL,wantL,stepL,evL,evC,LEnv.at,putL,loadFine,LEnv.keep,List.map_cons,List.map_nil,nbeq,bin_add,bin_eql,bin_lss,Bool.not_true,Nat.reduceEqDiff,decide_true,decide_false,cond_true,cond_false,Nat.reduceAdd,reduceCtorEq,List.length_nil,List.length_cons,eq_self,hfi,hsl,hor,trim_three,hw1,ih]
def Ft (may : Nat → Nat → Bool) (P : List (Nat × Nat)) (n S k : Nat) : List Int := (List.range S).map fun d => if k ≤ d then (((fwD may P n d).1 : Nat) : Int) else 0
def Wt (may : Nat → Nat → Bool) (P : List (Nat × Nat)) (n S k : Nat) : List Int := (List.range S).map fun d => if k ≤ d then (((fwD may P n d).2 : Nat) : Int) else 0
theorem Ft_len (may : Nat → Nat → Bool) (P : List (Nat × Nat)) (n S k : Nat) : (Ft may P n S k).length = S := by simp [Ft]
theorem Wt_len (may : Nat → Nat → Bool) (P : List (Nat × Nat)) (n S k : Nat) : (Wt may P n S k).length = S := by simp [Wt]
theorem Ft_at (may : Nat → Nat → Bool) (P : List (Nat × Nat)) (n S k d : Nat) (h : d < S) (hk : k ≤ d) : (Ft may P n S k)[d]? = some (((fwD may P n d).1 : Nat) : Int) := by simp [Ft,h,hk]
theorem Wt_at (may : Nat → Nat → Bool) (P : List (Nat × Nat)) (n S k d : Nat) (h : d < S) (hk : k ≤ d) : (Wt may P n S k)[d]? = some (((fwD may P n d).2 : Nat) : Int) := by simp [Wt,h,hk]
theorem Ft_set (may : Nat → Nat → Bool) (P : List (Nat × Nat)) (n S k : Nat) : (Ft may P n S (k + 1)).set k (((fwD may P n k).1 : Nat) : Int) = Ft may P n S k := by
  apply List.ext_getElem?
  intro i
  rw [List.getElem?_set,Ft_len]
  by_cases hi : i < S
  · by_cases c : k = i
    · subst c; simp [hi,Ft]
    · simp [c,Ft,hi]
      by_cases c2 : k ≤ i
      · rw [if_pos (by omega),if_pos c2]
      · rw [if_neg (by omega),if_neg c2]
  · rw [List.getElem?_eq_none (by rw [Ft_len]; omega),List.getElem?_eq_none (by rw [Ft_len]; omega)]
    split
    · split
      · omega
      · rfl
    · rfl
theorem Wt_set (may : Nat → Nat → Bool) (P : List (Nat × Nat)) (n S k : Nat) : (Wt may P n S (k + 1)).set k (((fwD may P n k).2 : Nat) : Int) = Wt may P n S k := by
  apply List.ext_getElem?
  intro i
  rw [List.getElem?_set,Wt_len]
  by_cases hi : i < S
  · by_cases c : k = i
    · subst c; simp [hi,Wt]
    · simp [c,Wt,hi]
      by_cases c2 : k ≤ i
      · rw [if_pos (by omega),if_pos c2]
      · rw [if_neg (by omega),if_neg c2]
  · rw [List.getElem?_eq_none (by rw [Wt_len]; omega),List.getElem?_eq_none (by rw [Wt_len]; omega)]
    split
    · split
      · omega
      · rfl
    · rfl
theorem Wt_zero (may : Nat → Nat → Bool) (P : List (Nat × Nat)) (n S k : Nat) : (Wt may P n S (k + 1)).set k 0 = Wt may P n S (k + 1) := by
  apply List.ext_getElem?
  intro i
  rw [List.getElem?_set,Wt_len]
  by_cases hi : i < S
  · by_cases c : k = i
    · subst c
      simp [hi,Wt]
      intro h; omega
    · simp [c]
  · rw [List.getElem?_eq_none (l := Wt may P n S (k + 1)) (by rw [Wt_len]; omega)]
    split
    · split
      · omega
      · rfl
    · rfl
theorem Ft_top (may : Nat → Nat → Bool) (P : List (Nat × Nat)) (n A : Nat) (hA : 2 ^ n = A + 1) : Ft may P n (A + 1) A = List.replicate (A + 1) 0 := by
  apply List.ext_getElem?
  intro i
  by_cases hi : i < A + 1
  · have e := fwD_all may P n
    rw [show 2 ^ n - 1 = A by omega] at e
    rw [List.getElem?_replicate,if_pos hi]
    by_cases c : A ≤ i
    · obtain rfl : i = A := by omega
      rw [Ft_at _ _ _ _ _ _ hi c,e]; rfl
    · simp [Ft,hi,c]
  · rw [List.getElem?_eq_none (by rw [Ft_len]; omega),List.getElem?_eq_none (by simp; omega)]
theorem Wt_top (may : Nat → Nat → Bool) (P : List (Nat × Nat)) (n A : Nat) (hA : 2 ^ n = A + 1) : Wt may P n (A + 1) A = (List.replicate (A + 1) (0 : Int)).set A 1 := by
  apply List.ext_getElem?
  intro i
  rw [List.getElem?_set]
  by_cases hi : i < A + 1
  · have e := fwD_all may P n
    rw [show 2 ^ n - 1 = A by omega] at e
    by_cases c : A ≤ i
    · obtain rfl : i = A := by omega
      rw [Wt_at _ _ _ _ _ _ hi c,e]; simp
    · simp [Wt,hi,c]
      intro c2; omega
  · rw [List.getElem?_eq_none (by rw [Wt_len]; omega),if_neg (by omega),List.getElem?_eq_none (by simp; omega)]
theorem fill2_loop (n0 : Nat) (hn : 1 ≤ n0 ∧ n0 ≤ 6) (P : List (Nat × Nat)) (hP : P.length ≤ 12) (hlt : ∀ p ∈ P,p.2 < n0) (g : Nat) (first cap : List LV) (may : Nat → Nat → Bool)
    (hmay : ∀ (f d : Nat) m,f < n0 → d < 2 ^ n0 → clF LP g (first ++ ([.int .i64 (f : Int),.int .i64 (d : Int)] ++ cap)) m = some (.P,.bool (may f d),m))
    (A : Nat) (hA : 2 ^ n0 = A + 1) : ∀ (k : Nat),k ≤ A →
    exF LP ring_filled.L2 [(0,.int .i64 (n0 : Int)),(2,.func g first cap),(8,.ptr 2 0 40),(11,.int .i64 ((k : Int) - 1))] (TM (Ft may P n0 (A + 1) k) (Wt may P n0 (A + 1) k) n0 P (.func g first cap) (A + 1)) =
      some (.exit 2,[(8,.ptr 2 0 40)],TM (Ft may P n0 (A + 1) 0) (Wt may P n0 (A + 1) 0) n0 P (.func g first cap) (A + 1)) := by
  have hA64 : A + 1 ≤ 64 := by
    have : 2 ^ n0 ≤ 2 ^ 6 := Nat.pow_le_pow_right (by omega) hn.2
    omega
  intro k
  induction k with
  | zero =>
    intro _
    rw [ring_filled.L2_eq]
    simp only [ring_filled.B2,exF_seq,exF_region,exF_cond,exF_exit,runL,wantL,stepL,evL,evC,LEnv.at,putL,loadFine,LEnv.keep,List.map_cons,List.map_nil,nbeq,bin_geq,Nat.reduceEqDiff,decide_true,decide_false,cond_true,cond_false,reduceCtorEq,eq_self,Int.natCast_zero,TM,show ¬ ((0 : Int) ≤ (0 : Int) - 1) by omega]
  | succ k ih =>
    intro hk
    have ih := ih (by omega)
    have hFl := Ft_len may P n0 (A + 1) (k + 1)
    have hWl := Wt_len may P n0 (A + 1) (k + 1)
    have h1 := fill1_loop n0 hn P hP hlt g first cap may hmay (Ft may P n0 (A + 1) (k + 1)) (Wt may P n0 (A + 1) (k + 1)) (A + 1) hA.symm hFl hWl k (by omega)
      (fun d h1 h2 => Ft_at _ _ _ _ _ _ h2 (by omega)) (fun d h1 h2 => Wt_at _ _ _ _ _ _ h2 (by omega)) n0 0 (13,0) (by omega) rfl (by omega) (by omega)
    rw [← fwD_eq may P n0 k (by omega),Ft_set,Wt_set] at h1
    simp only [Int.natCast_zero,show (((13 : Nat)) : Int) = 13 from rfl,Wt_zero] at h1
    have h38 := cT_38 n0 (ltL P) (.func g first cap) (.sl 0 0 (A + 1) (A + 1) 0 1 (A + 1)) (.sl 1 0 (A + 1) (A + 1) 0 1 (A + 1)) (ltL_len P)
    have hlen := cT_len n0 (ltL P) (.func g first cap) (.sl 0 0 (A + 1) (A + 1) 0 1 (A + 1)) (.sl 1 0 (A + 1) (A + 1) 0 1 (A + 1)) (ltL_len P)
    have hst := set_int .i64 (Ft may P n0 (A + 1) (k + 1)) k 13 (by omega)
    have hml : ((Ft may P n0 (A + 1) (k + 1)).map (LV.int .i64)).length = A + 1 := by rw [List.length_map,hFl]
    have hki : (((k + 1 : Nat) : Int) - 1) = (k : Int) := by omega
    have hw : IntKind.i64.wrap ((k : Int) - 1) = (k : Int) - 1 := wrap_in (by omega)
    rw [ring_filled.L2_eq]
    simp only [TM] at h1 ih ⊢
    simp only [ring_filled.B2,exF_seq,exF_region,exF_block,exF_cond,exF_skip,runL,wantL,stepL,evL,evC,LEnv.at,putL,loadFine,loadL,cellsAt,Trk.putNew,Trk.up,Trk.touch,Trk.gives,Trk.calm,Trk.hit,opdsOf,Trk.fresh,LEnv.keep,List.map_cons,List.map_nil,nbeq,nble,nblt,bin_sub,bin_geq,natL_nat,List.any_cons,List.any_nil,Bool.or_false,Bool.or_true,Bool.and_true,Bool.false_and,Bool.not_true,Bool.not_false,Nat.reduceEqDiff,decide_true,decide_false,cond_true,cond_false,List.filter_nil,Nat.reduceAdd,Nat.reduceLeDiff,reduceCtorEq,List.length_nil,List.length_cons,Nat.mul_one,eq_self,LV.cells,List.getElem?_cons_zero,List.getElem?_cons_succ,storeL,spliceL,List.set_cons_zero,LV.scalar,List.all_cons,List.all_nil,hki,show (0 : Int) ≤ (k : Int) by omega,h38,hlen,hml,hst,show k < A + 1 by omega,show k + 1 ≤ A + 1 by omega,Nat.zero_add,h1,trim_three,hw,ih]
end Go.Am.Ring
