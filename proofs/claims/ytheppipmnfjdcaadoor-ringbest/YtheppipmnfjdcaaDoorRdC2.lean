import Derived.Test.YtheppipmnfjdcaaDoorRdC1
set_option linter.unusedVariables false
set_option linter.unusedSimpArgs false
set_option maxRecDepth 10000
namespace Go.Am.Ring
open Go.Am.G
def plcG (x : Int) : Nat → List Int → Int
  | _,[] => -1
  | k,a :: r => if a = x then (k : Int) else plcG x (k + 1) r
def plc (l : List Int) (x : Int) : Int := plcG x 0 l
theorem plcG_lt (x : Int) : ∀ (l : List Int) (k : Nat),-1 ≤ plcG x k l ∧ plcG x k l < (k : Int) + l.length
  | [],k => by simp [plcG]; omega
  | a :: r,k => by
    have := plcG_lt x r (k + 1)
    rw [plcG,List.length_cons]
    split <;> omega
theorem plcG_mem (x : Int) : ∀ (l : List Int) (k : Nat),(0 ≤ plcG x k l ↔ x ∈ l)
  | [],k => by simp [plcG]
  | a :: r,k => by
    have := plcG_mem x r (k + 1)
    rw [plcG,List.mem_cons]
    split
    · rename_i h; subst h; simp
    · rename_i h
      rw [this]
      constructor
      · exact .inr
      · rintro (h' | h')
        · exact absurd h'.symm h
        · exact h'
theorem plc_mem (l : List Int) (x : Int) : 0 ≤ plc l x ↔ x ∈ l := plcG_mem x l 0
theorem plcG_snoc (x y : Int) : ∀ (l : List Int) (k : Nat),plcG x k (l ++ [y]) = if x ∈ l then plcG x k l else if y = x then ((k + l.length : Nat) : Int) else -1
  | [],k => by simp [plcG]
  | a :: r,k => by
    rw [List.cons_append,plcG,plcG_snoc x y r (k + 1),plcG]
    by_cases c : a = x
    · subst c; simp
    · have : x ∈ a :: r ↔ x ∈ r := by simp [Ne.symm c]
      simp only [if_neg c,this,List.length_cons]
      split
      · rfl
      · split
        · congr 1; omega
        · rfl
def agnF (o : List Int) : Nat → List (Int × Int) → List Int
  | _,[] => []
  | k,p :: r => if plc o p.2 < plc o p.1 then (k : Int) :: agnF o (k + 1) r else agnF o (k + 1) r
def agn (l : List (Int × Int)) (o : List Int) : List Int := agnF o 0 l
def chkO (N : Int) : List Int → List Int → Int
  | _,[] => 0
  | pre,x :: r => if 0 ≤ x ∧ x < N then (if x ∈ pre then 6 else chkO N (pre ++ [x]) r) else 2
def againstV (N : Int) (l : List (Int × Int)) (o : List Int) : List Int × Int :=
  if chkF N l = 0 then (if (o.length : Int) = N then (if chkO N [] o = 0 then (agn l o,0) else ([],chkO N [] o)) else ([],5)) else ([],chkF N l)
theorem chkF_ok {N : Int} {l : List (Int × Int)} (h : chkF N l = 0) : (1 ≤ N ∧ N ≤ 6) ∧ l.length ≤ 12 ∧ chkP N l = 0 := by
  unfold chkF at h
  split at h
  · rename_i h1
    split at h
    · rename_i h2; exact ⟨h1,h2,h⟩
    · omega
  · omega
end Go.Am.Ring
set_option linter.unusedVariables false
set_option linter.unusedSimpArgs false
set_option maxRecDepth 10000
namespace Go.Am.Ring
open Go.Am.G
def castP (p : Nat × Nat) : Int × Int := ((p.1 : Int),(p.2 : Int))
structure Good (n : Nat) (P : List (Nat × Nat)) : Prop where
  pos : 1 ≤ n
  le6 : n ≤ 6
  le12 : P.length ≤ 12
  lt : ∀ p ∈ P,p.1 < n ∧ p.2 < n
  ne : ∀ p ∈ P,p.1 ≠ p.2
theorem chkP_good (N : Int) : ∀ (l : List (Int × Int)),chkP N l = 0 → ∃ P : List (Nat × Nat),l = P.map castP ∧ ∀ p ∈ P,(p.1 : Int) < N ∧ (p.2 : Int) < N ∧ p.1 ≠ p.2
  | [],_ => ⟨[],rfl,by simp⟩
  | p :: r,h => by
    rw [chkP] at h
    split at h
    · rename_i c
      split at h
      · omega
      · rename_i d
        obtain ⟨P,rfl,hP⟩ := chkP_good N r h
        refine ⟨(p.1.toNat,p.2.toNat) :: P,?_,?_⟩
        · simp only [List.map_cons,castP,List.cons.injEq,and_true]
          ext <;> simp <;> omega
        · intro q hq
          rcases List.mem_cons.1 hq with rfl | hq
          · simp only; omega
          · exact hP q hq
    · omega
theorem good_of {N : Int} {l : List (Int × Int)} (h : chkF N l = 0) : ∃ (n : Nat) (P : List (Nat × Nat)),N = (n : Int) ∧ l = P.map castP ∧ Good n P := by
  obtain ⟨hN,hl,hc⟩ := chkF_ok h
  obtain ⟨P,rfl,hP⟩ := chkP_good N l hc
  refine ⟨N.toNat,P,by omega,rfl,by omega,by omega,by simpa using hl,fun p hp => ?_,fun p hp => (hP p hp).2.2⟩
  have := hP p hp
  omega
theorem chkF_of {n : Nat} {P : List (Nat × Nat)} (G : Good n P) : chkF (n : Int) (P.map castP) = 0 := by
  have h : ∀ (Q : List (Nat × Nat)),(∀ p ∈ Q,p.1 < n ∧ p.2 < n) → (∀ p ∈ Q,p.1 ≠ p.2) → chkP (n : Int) (Q.map castP) = 0 := by
    intro Q
    induction Q with
    | nil => intros; rfl
    | cons a r ih =>
      intro h1 h2
      have a1 := h1 a (by simp)
      have a2 := h2 a (by simp)
      rw [List.map_cons,chkP,if_pos (by simp [castP]; omega),if_neg (by simp [castP]; omega)]
      exact ih (fun p hp => h1 p (by simp [hp])) (fun p hp => h2 p (by simp [hp]))
  unfold chkF
  rw [if_pos (by have := G.pos; have := G.le6; omega),if_pos (by simpa using G.le12)]
  exact h P G.lt G.ne
theorem pcN_seg (P : List (Nat × Nat)) (k : Nat) (h : k < P.length) : ((pcI (P.map castP)).drop (k * 2)).take 2 = [.int .i64 ((P[k].1 : Nat) : Int),.int .i64 ((P[k].2 : Nat) : Int)] := by
  rw [pcI_seg _ _ (by simpa using h)]; simp [castP]
theorem pcN_ok (P : List (Nat × Nat)) (k : Nat) (h : k < P.length) : k * 2 + 2 ≤ (pcI (P.map castP)).length := pcI_ok _ _ (by simpa using h)
def nones (L : Nat) : List Int := List.replicate L (-1)
theorem repeat_run : ∀ (L : Nat),L ≤ 6 → exF LP slices_Repeat_int_int.B (LEnv.ofFrom 0 [.lst false true 1 1 [.int .i64 (-1)],.int .i64 (L : Int)]) [] = some (.ret,[(4,.sl 0 0 L L 0 1 L)],[⟨(nones L).map (LV.int .i64),true⟩])
  | 0,_ => exF_some.2 ⟨400,by kernel_rfl⟩
  | 1,_ => exF_some.2 ⟨400,by kernel_rfl⟩
  | 2,_ => exF_some.2 ⟨400,by kernel_rfl⟩
  | 3,_ => exF_some.2 ⟨400,by kernel_rfl⟩
  | 4,_ => exF_some.2 ⟨400,by kernel_rfl⟩
  | 5,_ => exF_some.2 ⟨400,by kernel_rfl⟩
  | 6,_ => exF_some.2 ⟨400,by kernel_rfl⟩
theorem repeat_c (L : Nat) (h : L ≤ 6) (m : LMem) : clF LP n_slices_Repeat_int_int [.lst false true 1 1 [.int .i64 (-1)],.int .i64 (L : Int)] m = some (.O,.sl m.length 0 L L 0 1 L,m ++ [⟨(nones L).map (LV.int .i64),true⟩]) := by
  rw [call_O lp_slices_Repeat_int_int rfl (by simp [LV.pures,LV.pure]) (v := .sl 0 0 L L 0 1 L) (m1 := [⟨(nones L).map (LV.int .i64),true⟩]) (by simp only [slices_Repeat_int_int,repeat_run L h]; rfl) m]
  simp [LV.shift,shifts_int]
def atL (n : Nat) (pre : List Int) : List Int := (List.range n).map fun f : Nat => plc pre (f : Int)
theorem atL_len (n : Nat) (pre : List Int) : (atL n pre).length = n := by simp [atL]
theorem atL_at (n : Nat) (pre : List Int) (f : Nat) (h : f < n) : (atL n pre)[f]? = some (plc pre (f : Int)) := by simp [atL,h]
theorem atL_nil (n : Nat) : atL n [] = nones n := by
  apply List.ext_getElem?
  intro i
  by_cases h : i < n
  · rw [atL_at n [] i h,nones,List.getElem?_replicate,if_pos h]; rfl
  · rw [List.getElem?_eq_none (by rw [atL_len]; omega),List.getElem?_eq_none (by simp [nones]; omega)]
theorem atL_snoc (n : Nat) (pre : List Int) (x : Nat) (hx : x < n) (h : (x : Int) ∉ pre) : atL n (pre ++ [(x : Int)]) = (atL n pre).set x (pre.length : Int) := by
  apply List.ext_getElem?
  intro i
  by_cases hi : i < n
  · rw [atL_at _ _ i hi,List.getElem?_set,atL_len,atL_at _ _ i hi]
    unfold plc
    rw [plcG_snoc]
    by_cases c : x = i
    · subst c
      simp [h,hx]
    · rw [if_neg c,if_neg (show ¬ (x : Int) = (i : Int) by omega)]
      split
      · rfl
      · rename_i hn
        have h5 : ¬ 0 ≤ plcG (i : Int) 0 pre := fun c => hn ((plcG_mem (i : Int) pre 0).1 c)
        have := (plcG_lt (i : Int) pre 0).1
        congr 1; omega
  · rw [List.getElem?_eq_none (by rw [atL_len]; omega),List.getElem?_eq_none (by simp [atL_len]; omega)]
theorem trim_one (vs : List LV) (b : LBlk) : trim 1 vs [b] = [b] := trim_le 1 vs [b] (by simp)
theorem agn0_loop (n0 : Nat) (hn : 1 ≤ n0 ∧ n0 ≤ 6) (nl ex nl' ex' : Bool) (sz sz' : Nat) (l : List (Int × Int)) (o : List Int) (ho : o.length < 1000) (n : Nat) : ∀ (k : Nat),k + n = o.length → (∀ x ∈ o.take k,0 ≤ x ∧ x < (n0 : Int)) →
    ∃ M,exF LP ring_Against.L0 [(0,.int .i64 (n0 : Int)),(1,FL nl ex sz l),(9,.sl 0 0 n0 n0 0 1 n0),(30,IL nl' ex' sz' o),(31,.int .i64 (o.length : Int)),(32,.int .i64 (k : Int))] [⟨(atL n0 (o.take k)).map (LV.int .i64),true⟩] =
      if chkO (n0 : Int) (o.take k) (o.drop k) = 0 then some (.exit 1,[(1,FL nl ex sz l),(9,.sl 0 0 n0 n0 0 1 n0)],[⟨(atL n0 o).map (LV.int .i64),true⟩])
      else some (.ret,[(6,.lst true true 0 0 []),(7,.int .i64 (chkO (n0 : Int) (o.take k) (o.drop k)))],M) := by
  have hw : IntKind.i64.wrap ((n0 : Int) - 1) = (n0 : Int) - 1 := wrap_in (by omega)
  induction n with
  | zero =>
    intro k hk _
    refine ⟨[],?_⟩
    rw [ring_Against.L0_eq]
    simp only [ring_Against.B0,exF_seq,exF_region,exF_cond,exF_exit,runL,wantL,stepL,evL,LEnv.at,putL,loadFine,LEnv.keep,List.map_cons,List.map_nil,nbeq,bin_lss,Nat.reduceEqDiff,decide_true,decide_false,cond_true,cond_false,reduceCtorEq,if_true,eq_self,show ¬ ((k : Int) < (o.length : Int)) by omega,List.drop_eq_nil_of_le (show o.length ≤ k by omega),chkO,List.take_of_length_le (show o.length ≤ k by omega)]
  | succ n ih =>
    intro k hk hpre
    have h2 : k < o.length := by omega
    have ih := ih (k + 1) (by omega)
    rw [ring_Against.L0_eq,List.drop_eq_getElem_cons h2,chkO]
    rw [take_snoc o k h2] at ih
    by_cases c1 : 0 ≤ o[k] ∧ o[k] < (n0 : Int)
    · have e1 : inB 0 ((n0 : Int) - 1) o[k] = true := by simp only [inB]; rw [decide_eq_true_eq]; omega
      rw [if_pos c1]
      obtain ⟨x,hx⟩ : ∃ x : Nat,o[k] = (x : Int) := ⟨o[k].toNat,by omega⟩
      have hxn : x < n0 := by omega
      have hat : ((atL n0 (o.take k)).map (LV.int .i64))[x]? = some (.int .i64 (plc (o.take k) (x : Int))) := by rw [List.getElem?_map,atL_at _ _ x hxn]; rfl
      have hlen : ((atL n0 (o.take k)).map (LV.int .i64)).length = n0 := by rw [List.length_map,atL_len]
      have hm := plc_mem (o.take k) (x : Int)
      have hok := int_at .i64 o k h2
      rw [hx] at hok e1 ih ⊢
      have ih := ih (by
        intro y hy
        rcases List.mem_append.1 hy with hy | hy
        · exact hpre y hy
        · rw [List.mem_singleton.1 hy,← hx]; exact c1)
      by_cases c2 : (x : Int) ∈ o.take k
      · have c3 := hm.2 c2
        rw [if_pos c2]
        refine ⟨[⟨(atL n0 (o.take k)).map (LV.int .i64),true⟩],?_⟩
        simp only [ring_Against.B0,exF_seq,exF_region,exF_block,exF_cond,exF_ret,exF_skip,runL,wantL,stepL,evL,evC,LEnv.at,putL,loadFine,loadL,cellsAt,Trk.putNew,Trk.up,Trk.touch,Trk.gives,Trk.calm,Trk.hit,opdsOf,Trk.fresh,LEnv.keep,List.map_cons,List.map_nil,nbeq,nble,nblt,ofAVs,bin_sub,bin_lss,bin_geq,natL_nat,List.any_cons,List.any_nil,Bool.or_false,Bool.or_true,Bool.and_true,Bool.false_and,Bool.not_true,Bool.not_false,Nat.reduceEqDiff,decide_true,decide_false,cond_true,cond_false,List.filter_nil,Nat.reduceAdd,Nat.reduceLeDiff,reduceCtorEq,List.length_nil,List.length_cons,Nat.mul_one,if_false,eq_self,List.append_nil,List.nil_append,unL,Int.reduceEq,List.getElem?_cons_zero,show ((k : Int) < (o.length : Int)) by omega,h2,hok,between_c,hw,e1,hxn,Nat.zero_add,hat,hlen,c3,List.length_map]
        try rfl
      · have c3 : ¬ 0 ≤ plc (o.take k) (x : Int) := fun c => c2 (hm.1 c)
        rw [if_neg c2]
        obtain ⟨M,ih⟩ := ih
        refine ⟨M,?_⟩
        have hst := set_int .i64 (atL n0 (o.take k)) x (k : Int) (by rw [atL_len]; exact hxn)
        have hsn := atL_snoc n0 (o.take k) x hxn c2
        have hkl : (o.take k).length = k := by simp; omega
        rw [hkl] at hsn
        rw [hsn] at ih
        simp only [ring_Against.B0,exF_seq,exF_region,exF_block,exF_cond,exF_skip,runL,wantL,stepL,evL,evC,LEnv.at,putL,loadFine,loadL,cellsAt,Trk.putNew,Trk.up,Trk.touch,Trk.gives,Trk.calm,Trk.hit,opdsOf,Trk.fresh,LEnv.keep,List.map_cons,List.map_nil,nbeq,nble,nblt,ofAVs,bin_add,bin_sub,bin_lss,bin_geq,natL_nat,List.any_cons,List.any_nil,Bool.or_false,Bool.or_true,Bool.and_true,Bool.false_and,Bool.not_true,Bool.not_false,Nat.reduceEqDiff,decide_true,decide_false,cond_true,cond_false,List.filter_nil,Nat.reduceAdd,Nat.reduceLeDiff,reduceCtorEq,List.length_nil,List.length_cons,Nat.mul_one,eq_self,List.append_nil,List.nil_append,unL,LV.cells,List.getElem?_cons_zero,storeL,spliceL,List.set_cons_zero,LV.scalar,List.all_cons,List.all_nil,show ((k : Int) < (o.length : Int)) by omega,h2,hok,between_c,hw,e1,hxn,Nat.zero_add,hat,hlen,c3,List.length_map,hst,show x + 1 ≤ n0 by omega,trim_one,wrap_succ (show k + 1 < 9223372036854775808 by omega),ih]
    · have e1 : inB 0 ((n0 : Int) - 1) o[k] = false := by simp only [inB]; rw [decide_eq_false_iff_not]; omega
      rw [if_neg c1]
      refine ⟨[⟨(atL n0 (o.take k)).map (LV.int .i64),true⟩],?_⟩
      simp only [ring_Against.B0,exF_seq,exF_region,exF_block,exF_cond,exF_ret,exF_skip,runL,wantL,stepL,evL,evC,LEnv.at,putL,loadFine,loadL,cellsAt,Trk.putNew,Trk.up,Trk.touch,Trk.gives,Trk.calm,opdsOf,Trk.fresh,LEnv.keep,List.map_cons,List.map_nil,nbeq,nble,nblt,ofAVs,bin_sub,bin_lss,natL_nat,List.any_cons,List.any_nil,Bool.or_false,Bool.or_true,Bool.and_true,Bool.false_and,Bool.not_true,Bool.not_false,Nat.reduceEqDiff,decide_true,decide_false,cond_true,cond_false,List.filter_nil,Nat.reduceAdd,Nat.reduceLeDiff,reduceCtorEq,List.length_nil,List.length_cons,Nat.mul_one,if_false,eq_self,List.append_nil,List.nil_append,unL,Int.reduceEq,show ((k : Int) < (o.length : Int)) by omega,h2,int_at _ _ _ h2,between_c,hw,e1]
      try rfl
theorem gv_ne {b : Nat} {l : List Int} (h : l ≠ []) : GV b l = .sl b 0 l.length l.length 1 1 l.length := by rw [GV,if_neg h]
def BM (w d : List LV) (out : List Int) : LMem := if out = [] then [⟨w,true⟩] else [⟨w,true⟩,⟨d,true⟩,⟨out.map (LV.int .i64),true⟩]
theorem BM_0f (w d : List LV) (out : List Int) (f : LBlk) : (BM w d out ++ [f])[0]? = some ⟨w,true⟩ := by unfold BM; split <;> rfl
theorem last_at (m : LMem) (b : LBlk) : (m ++ [b])[m.length]? = some b := by simp
theorem last_set (m : LMem) (b c : LBlk) : (m ++ [b]).set m.length c = m ++ [c] := by simp
theorem BM_app (w d f : List LV) (out : List Int) (x : Int) (ho : out.length < 1000) : ∃ d',(d' = f ∨ d' = d) ∧ appendL (BM w d out ++ [⟨f,true⟩]) 1 8 (GV 2 out) (.lst false true 1 1 [.int .i64 x]) = some (GV 2 (out ++ [x]),BM w d' (out ++ [x]) ++ (if out = [] then [] else [⟨f,true⟩])) := by
  by_cases c : out = []
  · subst c
    refine ⟨f,.inl rfl,?_⟩
    have := append_grow [⟨w,true⟩,⟨f,true⟩] [] x true (by simp)
    simpa [BM,GM] using this
  · refine ⟨d,.inr rfl,?_⟩
    have := append_c [⟨w,true⟩,⟨d,true⟩] [⟨f,true⟩] 1 8 out.length (out.map (LV.int .i64)) [.int .i64 x] true (by simp) rfl rfl (by omega) (by omega) (.inl (by simpa using c))
    have hl : out.length ≠ 0 := by simpa using c
    have e1 : GVc 2 1 out.length = GV 2 out := by rw [gv_ne c,GVc,if_neg hl]; simp
    have e2 : GVc 2 1 (out.length + 1) = GV 2 (out ++ [x]) := by rw [gv_ne (by simp),GVc,if_neg (by omega)]; simp
    simp only [List.length_cons,List.length_nil,Nat.zero_add,Nat.reduceAdd,e1,e2] at this
    simpa [BM,c,GMc,hl] using this
theorem BM_len (w d : List LV) (out : List Int) : (BM w d out).length = if out = [] then 1 else 3 := by unfold BM; split <;> rfl
theorem BM_under (w d : List LV) (out : List Int) (L : Nat) (l : LV) (hl : ∀ k,LV.under k l = true) (a b : Int) : LV.unders (BM w d out).length [.sl 0 0 L L 0 1 L,GV 2 out,l,.int .i64 a,.int .i64 b] = true := by
  rw [BM_len]
  by_cases c : out = []
  · subst c; simp [LV.unders,LV.under,GV,hl]
  · simp [LV.unders,LV.under,gv_ne c,c,hl]
theorem BM_trim (w d f : List LV) (out : List Int) (hw : LV.unders 1 w = true) (hd : LV.unders 3 d = true) (hw3 : LV.unders 3 w = true) (L : Nat) (l : LV) (hl : ∀ k,LV.under k l = true) (a b : Int) :
    trim (BM w d out).length [.sl 0 0 L L 0 1 L,GV 2 out,l,.int .i64 a,.int .i64 b] (BM w d out ++ [⟨f,true⟩]) = BM w d out := by
  unfold trim
  rw [List.take_left,BM_under w d out L l hl]
  by_cases c : out = []
  · simp [BM,c,belowM,hw]
  · simp [BM,c,belowM,hw3,hd,unders_int]
theorem BM_trim2 (w d d' f : List LV) (out : List Int) (x : Int) (hd : LV.unders 3 d' = true) (hw3 : LV.unders 3 w = true) (L : Nat) (l : LV) (hl : ∀ k,LV.under k l = true) (a b : Int) :
    trim (BM w d out).length [.sl 0 0 L L 0 1 L,GV 2 (out ++ [x]),l,.int .i64 a,.int .i64 b] (BM w d' (out ++ [x]) ++ (if out = [] then [] else [⟨f,true⟩])) = BM w d' (out ++ [x]) := by
  by_cases c : out = []
  · subst c
    simp [trim,BM_len,LV.unders,LV.under,gv_ne,nblt]
  · have := BM_trim w d' f (out ++ [x])
    rw [if_neg c]
    have e : (BM w d out).length = (BM w d' (out ++ [x])).length := by rw [BM_len,BM_len,if_neg c,if_neg (by simp)]
    rw [e]
    unfold trim
    rw [List.take_left,BM_under w d' (out ++ [x]) L l hl]
    have hu := unders_int .i64 3 (out ++ [x])
    simp only [List.map_append,List.map_cons,List.map_nil] at hu
    simp [BM,belowM,hw3,hd,hu]
abbrev FN (nl ex : Bool) (sz : Nat) (P : List (Nat × Nat)) : LV := FL nl ex sz (P.map castP)
theorem FN_eq (nl ex : Bool) (sz : Nat) (P : List (Nat × Nat)) : FN nl ex sz P = .lst nl ex sz P.length (pcI (P.map castP)) := by simp [FN,FL]
theorem agn1_loop (n0 : Nat) (hn : 1 ≤ n0 ∧ n0 ≤ 6) (nl ex : Bool) (sz : Nat) (P : List (Nat × Nat)) (G : Good n0 P) (o : List Int) (n : Nat) : ∀ (k : Nat) (d : List LV) (out : List Int),k + n = P.length → out.length ≤ k → LV.unders 3 d = true →
    ∃ d',exF LP ring_Against.L1 [(9,.sl 0 0 n0 n0 0 1 n0),(12,GV 2 out),(54,FN nl ex sz P),(55,.int .i64 (P.length : Int)),(56,.int .i64 (k : Int))] (BM ((atL n0 o).map (LV.int .i64)) d out) =
      some (.exit 4,[(12,GV 2 (out ++ agnF o k ((P.drop k).map castP)))],BM ((atL n0 o).map (LV.int .i64)) d' (out ++ agnF o k ((P.drop k).map castP))) := by
  have h12 := G.le12
  induction n with
  | zero =>
    intro k d out hk ho hd
    refine ⟨d,?_⟩
    rw [ring_Against.L1_eq]
    simp only [ring_Against.B1,exF_seq,exF_region,exF_cond,exF_exit,runL,wantL,stepL,evL,LEnv.at,putL,loadFine,LEnv.keep,List.map_cons,List.map_nil,nbeq,bin_lss,Nat.reduceEqDiff,decide_true,decide_false,cond_true,cond_false,eq_self,List.append_nil,show ¬ ((k : Int) < (P.length : Int)) by omega,List.drop_eq_nil_of_le (show P.length ≤ k by omega),agnF]
  | succ n ih =>
    intro k d out hk hout hd
    have h2 : k < P.length := by omega
    have hlt := G.lt _ (List.getElem_mem h2)
    have s0 := pcN_seg P k h2
    have ok := pcN_ok P k h2
    rw [ring_Against.L1_eq,List.drop_eq_getElem_cons h2,List.map_cons,agnF]
    simp only [FN_eq] at ih ⊢
    have a1 : ((atL n0 o).map (LV.int .i64))[P[k].1]? = some (.int .i64 (plc o (P[k].1 : Int))) := by rw [List.getElem?_map,atL_at _ _ _ hlt.1]; rfl
    have a2 : ((atL n0 o).map (LV.int .i64))[P[k].2]? = some (.int .i64 (plc o (P[k].2 : Int))) := by rw [List.getElem?_map,atL_at _ _ _ hlt.2]; rfl
    have hwl : ((atL n0 o).map (LV.int .i64)).length = n0 := by rw [List.length_map,atL_len]
    have hu1 := unders_int .i64 1 (atL n0 o)
    have hu3 := unders_int .i64 3 (atL n0 o)
    generalize (atL n0 o).map (LV.int .i64) = w at *
    have b0 := fun f => BM_0f w d out f
    by_cases c : plc o (P[k].2 : Int) < plc o (P[k].1 : Int)
    · obtain ⟨d',hd',ap⟩ := BM_app w d [.int .i64 (P[k].1 : Int),.int .i64 (P[k].2 : Int)] out (k : Int) (by omega)
      rw [if_pos (by simpa [castP] using c)]
      have hd3 : LV.unders 3 d' = true := by
        rcases hd' with rfl | rfl
        · rfl
        · exact hd
      obtain ⟨d2,ih⟩ := ih (k + 1) d' (out ++ [(k : Int)]) (by omega) (by simp; omega) hd3
      rw [List.append_assoc,List.singleton_append] at ih
      refine ⟨d2,?_⟩
      have htr := BM_trim2 w d d' [.int .i64 (P[k].1 : Int),.int .i64 (P[k].2 : Int)] out (k : Int) hd3 hu3 n0 (.lst nl ex sz P.length (pcI (P.map castP))) (fun _ => rfl) (P.length : Int) ((k + 1 : Nat) : Int)
      generalize (if out = [] then ([] : LMem) else [⟨[.int .i64 (P[k].1 : Int),.int .i64 (P[k].2 : Int)],true⟩]) = tl at *
      simp only [ring_Against.B1,exF_seq,exF_region,exF_block,exF_cond,exF_skip,runL,wantL,stepL,evL,evC,LEnv.at,putL,loadFine,loadL,cellsAt,Trk.putNew,Trk.up,Trk.touch,Trk.gives,Trk.calm,Trk.hit,opdsOf,Trk.fresh,LEnv.keep,List.map_cons,List.map_nil,nbeq,nble,nblt,ofAV,ofAVs,bin_add,bin_lss,natL_nat,natL_zero,natL_one,List.any_cons,List.any_nil,Bool.or_false,Bool.or_true,Bool.and_true,Bool.false_and,Bool.not_true,Bool.not_false,Nat.reduceEqDiff,decide_true,decide_false,cond_true,cond_false,List.filter_nil,Nat.reduceAdd,Nat.reduceLeDiff,reduceCtorEq,List.length_nil,List.length_cons,Nat.mul_one,eq_self,List.append_nil,List.nil_append,views_pures,LV.pures,LV.pure,freeze,Nat.reduceDiv,LV.cells,allocL,List.getElem?_cons_zero,List.getElem?_cons_succ,storeL,spliceL,List.take_zero,List.take_succ_cons,List.drop_zero,List.drop_succ_cons,List.drop_nil,List.take_nil,Nat.le_refl,LV.scalar,List.all_cons,List.all_nil,Nat.lt_add_one,Nat.reduceLT,fillL,List.length_append,show ((k : Int) < (P.length : Int)) by omega,h2,s0,ok,last_at,last_set,b0,hlt.1,hlt.2,hwl,Nat.zero_add,show ¬ ((BM w d out).length + 1 ≤ (BM w d out).length) by omega,a1,a2,c,ap,wrap_succ (show k + 1 < 9223372036854775808 by omega),envVals,htr,ih]
    · rw [if_neg (by simpa [castP] using c)]
      obtain ⟨d2,ih⟩ := ih (k + 1) d out (by omega) (by omega) hd
      refine ⟨d2,?_⟩
      have htr := BM_trim w d [.int .i64 (P[k].1 : Int),.int .i64 (P[k].2 : Int)] out hu1 hd hu3 n0 (.lst nl ex sz P.length (pcI (P.map castP))) (fun _ => rfl) (P.length : Int) ((k + 1 : Nat) : Int)
      simp only [ring_Against.B1,exF_seq,exF_region,exF_block,exF_cond,exF_skip,runL,wantL,stepL,evL,evC,LEnv.at,putL,loadFine,loadL,cellsAt,Trk.putNew,Trk.up,Trk.touch,Trk.gives,Trk.calm,Trk.hit,opdsOf,Trk.fresh,LEnv.keep,List.map_cons,List.map_nil,nbeq,nble,nblt,ofAV,ofAVs,bin_add,bin_lss,natL_nat,natL_zero,natL_one,List.any_cons,List.any_nil,Bool.or_false,Bool.or_true,Bool.and_true,Bool.false_and,Bool.not_true,Bool.not_false,Nat.reduceEqDiff,decide_true,decide_false,cond_true,cond_false,List.filter_nil,Nat.reduceAdd,Nat.reduceLeDiff,reduceCtorEq,List.length_nil,List.length_cons,Nat.mul_one,eq_self,List.append_nil,List.nil_append,LV.cells,allocL,List.getElem?_cons_zero,List.getElem?_cons_succ,storeL,spliceL,List.take_zero,List.take_succ_cons,List.drop_zero,List.drop_succ_cons,List.drop_nil,List.take_nil,Nat.le_refl,LV.scalar,List.all_cons,List.all_nil,Nat.lt_add_one,Nat.reduceLT,List.length_append,show ((k : Int) < (P.length : Int)) by omega,h2,s0,ok,last_at,last_set,b0,hlt.1,hlt.2,hwl,Nat.zero_add,show ¬ ((BM w d out).length + 1 ≤ (BM w d out).length) by omega,a1,a2,c,wrap_succ (show k + 1 < 9223372036854775808 by omega),envVals,htr,ih]
theorem agnP_c (nl ex nl' ex' : Bool) (sz sz' : Nat) (N : Int) (l : List (Int × Int)) (o : List Int) (hl : l.length < 1000) (ho : o.length < 1000) (m : LMem) :
    clF LP n_ring_Against [.int .i64 N,FL nl ex sz l,IL nl' ex' sz' o] m = some (.P,.tup [RL (againstV N l o).1,.int .i64 (againstV N l o).2],m) := by
  have hc := fun m => check_c nl ex sz N l (by omega) m
  have hp : LV.pures [LV.int .i64 N,FL nl ex sz l,IL nl' ex' sz' o] = true := by simp [LV.pures,LV.pure]
  unfold againstV
  by_cases h0 : chkF N l = 0
  · rw [if_pos h0]
    obtain ⟨n,P,rfl,rfl,G⟩ := good_of h0
    have hn : 1 ≤ n ∧ n ≤ 6 := ⟨G.pos,G.le6⟩
    by_cases h1 : (o.length : Int) = (n : Int)
    · rw [if_pos h1]
      obtain ⟨M,hlp⟩ := agn0_loop n hn nl ex nl' ex' sz sz' (P.map castP) o ho o.length 0 (by omega) (by simp)
      simp only [Int.natCast_zero,List.drop_zero,List.take_zero,atL_nil,h1] at hlp
      have hr := fun m => repeat_c n hn.2 m
      by_cases h2 : chkO (n : Int) [] o = 0
      · rw [if_pos h2]
        rw [if_pos h2] at hlp
        obtain ⟨d,h3⟩ := agn1_loop n hn nl ex sz P G o P.length 0 [] [] (by omega) (by simp) rfl
        rw [List.nil_append,List.drop_zero] at h3
        have h3 : exF LP ring_Against.L1 [(9,.sl 0 0 n n 0 1 n),(12,.lst true true 0 0 []),(54,FL nl ex sz (P.map castP)),(55,.int .i64 (((P.map castP).length : Nat) : Int)),(56,.int .i64 0)] [⟨(atL n o).map (LV.int .i64),true⟩] = some (.exit 4,[(12,GV 2 (agn (P.map castP) o))],BM ((atL n o).map (LV.int .i64)) d (agn (P.map castP) o)) := by
          rw [List.length_map]; exact h3
        refine call_Pv lp_ring_Against rfl hp (m1 := BM ((atL n o).map (LV.int .i64)) d (agn (P.map castP) o)) (v := .tup [GV 2 (agn (P.map castP) o),.int .i64 0]) ?_ (view_gv2 _ 2 _ _ rfl true fun c => by simp [BM,c]) m
        simp only [ring_Against,ring_Against.B,exF_seq,exF_region,exF_block,exF_cond,exF_ret,exF_skip,runL,wantL,stepL,evL,evC,LEnv.at,putL,loadFine,LEnv.keep,LEnv.ofFrom,List.map_cons,List.map_nil,nbeq,nble,ofAV,ofAVs,lenL,bin_neq,Bool.or_false,Bool.and_true,Nat.reduceEqDiff,decide_true,decide_false,cond_true,cond_false,Nat.reduceAdd,reduceCtorEq,List.length_nil,List.length_cons,Nat.mul_one,eq_self,retL,resultsL,resAllL,resOfL,List.append_nil,List.nil_append,not_true_eq_false,ne_eq,views_pures,LV.pures,LV.pure,freeze,Nat.reduceDiv,LV.cells,spliceL,List.take_zero,List.take_succ_cons,List.drop_succ_cons,List.drop_nil,List.take_nil,Nat.le_refl,fillL,hc,h0,h1,hr,hlp,h3]
        try rfl
      · rw [if_neg h2]
        rw [if_neg h2] at hlp
        refine call_P lp_ring_Against rfl hp (m1 := M) ?_ rfl m
        simp only [ring_Against,ring_Against.B,exF_seq,exF_region,exF_block,exF_cond,exF_skip,runL,wantL,stepL,evL,evC,LEnv.at,putL,loadFine,LEnv.keep,LEnv.ofFrom,List.map_cons,List.map_nil,nbeq,nble,ofAV,ofAVs,lenL,bin_neq,Bool.or_false,Bool.and_true,Nat.reduceEqDiff,decide_true,decide_false,cond_true,cond_false,Nat.reduceAdd,reduceCtorEq,List.length_nil,List.length_cons,Nat.mul_one,eq_self,retL,resultsL,resAllL,resOfL,List.append_nil,List.nil_append,not_true_eq_false,ne_eq,views_pures,LV.pures,LV.pure,freeze,Nat.reduceDiv,LV.cells,spliceL,List.take_zero,List.take_succ_cons,List.drop_succ_cons,List.drop_nil,List.take_nil,Nat.le_refl,fillL,hc,h0,h1,hr,hlp]
        try rfl
    · rw [if_neg h1]
      refine call_P lp_ring_Against rfl hp (m1 := []) ?_ rfl m
      simp only [ring_Against,ring_Against.B,exF_seq,exF_region,exF_block,exF_cond,exF_ret,runL,wantL,stepL,evL,evC,LEnv.at,putL,loadFine,LEnv.keep,LEnv.ofFrom,List.map_cons,List.map_nil,nbeq,ofAVs,lenL,bin_neq,Nat.reduceEqDiff,decide_true,decide_false,cond_true,cond_false,Nat.reduceAdd,reduceCtorEq,eq_self,retL,resultsL,resAllL,resOfL,List.append_nil,List.nil_append,not_true_eq_false,not_false_eq_true,ne_eq,hc,h0,h1]
      try rfl
  · rw [if_neg h0]
    refine call_P lp_ring_Against rfl hp (m1 := []) ?_ rfl m
    simp only [ring_Against,ring_Against.B,exF_seq,exF_region,exF_block,exF_cond,exF_ret,runL,wantL,stepL,evL,evC,LEnv.at,putL,loadFine,LEnv.keep,LEnv.ofFrom,List.map_cons,List.map_nil,nbeq,ofAVs,bin_neq,Nat.reduceEqDiff,decide_true,decide_false,cond_true,cond_false,Nat.reduceAdd,reduceCtorEq,eq_self,retL,resultsL,resAllL,resOfL,List.append_nil,List.nil_append,not_false_eq_true,ne_eq,hc,h0]
    try rfl
end Go.Am.Ring
