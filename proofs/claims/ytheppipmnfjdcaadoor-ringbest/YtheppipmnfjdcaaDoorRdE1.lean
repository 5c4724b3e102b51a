import Derived.Test.YtheppipmnfjdcaaDoorRdE00
import Derived.Test.YtheppipmnfjdcaaDoorRdE7
set_option linter.unusedVariables false
set_option linter.unusedSimpArgs false
set_option maxRecDepth 10000
set_option maxHeartbeats 1000000
namespace Go.Am.Ring
open Go.Am.G
theorem chkO_nodup (L : Nat) : ∀ (r pre : List Nat),(∀ k ∈ r,k < L) → chkO (L : Int) (ci pre) (ci r) = if r.Nodup ∧ (∀ k ∈ r,k ∉ pre) then 0 else 6
  | [],pre,_ => by
    rw [if_pos ⟨List.nodup_nil,by simp⟩]; rfl
  | x :: r,pre,h => by
    have hx := h x (by simp)
    show chkO (L : Int) (ci pre) ((x : Int) :: ci r) = _
    rw [chkO,if_pos (show 0 ≤ (x : Int) ∧ (x : Int) < (L : Int) by omega)]
    have e : ci pre ++ [(x : Int)] = ci (pre ++ [x]) := by simp
    rw [e,chkO_nodup L r (pre ++ [x]) fun k hk => h k (by simp [hk])]
    by_cases c : x ∈ pre
    · rw [if_pos ((ci_mem pre x).2 c),if_neg (fun hh => hh.2 x (by simp) c)]
    · rw [if_neg (fun hh => c ((ci_mem pre x).1 hh))]
      congr 1
      rw [List.nodup_cons]
      apply propext
      constructor
      · rintro ⟨h1,h2⟩
        refine ⟨⟨fun hm => h2 x hm (by simp),h1⟩,fun k hk => ?_⟩
        rcases List.mem_cons.1 hk with rfl | hk
        · exact c
        · exact fun hp => h2 k hk (by simp [hp])
      · rintro ⟨⟨h1,h2⟩,h3⟩
        refine ⟨h2,fun k hk hp => ?_⟩
        rcases List.mem_append.1 hp with hp | hp
        · exact h3 k (by simp [hk]) hp
        · rw [List.mem_singleton.1 hp] at hk; exact h1 hk
theorem views3 {m : LMem} {x y v v' : LV} {ids : List Nat} (h : ∀ k,view (k + 3) m v = some (v',ids)) (hx : x.pure = true) (hy : y.pure = true) (hv : v.pure = false) : views m [x,y,v] = some ([x,y,v'],ids) := by
  show viewL 100 m _ = _
  rw [viewL.eq_def]
  simp only [show LV.pures [x,y,v] = false by simp [LV.pures,hv],cond_false]
  rw [viewC.eq_def]
  simp only [view_pure 96 m x hx]
  rw [viewC.eq_def]
  simp only [view_pure 95 m y hy]
  rw [viewC.eq_def]
  simp only [h 93]
  rw [viewC.eq_def]
  simp only [List.append_nil,List.nil_append]
theorem view_ord {m : LMem} {i : Nat} {o : List Nat} {w : Bool} (h : m[i]? = some ⟨ints (ci o),w⟩) (n : Nat) (hn : o.length = n) (k : Nat) : view (k + 3) m (.sl i 0 n n 1 1 n) = some (IL false false 1 (ci o),[i]) := by
  have := view_sl k m i 0 n n 1 (ci o) w h (by rw [ci_len,hn]) (by omega) n (Nat.le_refl _)
  rw [List.drop_zero,List.take_of_length_le (by rw [ci_len]; omega)] at this
  exact this
theorem agn_ord {n : Nat} {P : List (Nat × Nat)} (G : Good n P) {o : List Nat} (ho : o ∈ ords n) : againstV (n : Int) (P.map castP) (ci o) = (ci (numL (msk P o)),0) := by
  obtain ⟨h1,h2,h3⟩ := ords_iff.1 ho
  unfold againstV
  have hk := chkO_nodup n o [] h3
  rw [if_pos ⟨h1,by simp⟩] at hk
  have hk : chkO (n : Int) [] (ci o) = 0 := hk
  rw [chkF_of G,if_pos rfl,if_pos (by rw [ci_len,h2]),hk,if_pos rfl,agn_bad G]
end Go.Am.Ring
set_option linter.unusedVariables false
set_option linter.unusedSimpArgs false
set_option maxRecDepth 10000
set_option maxHeartbeats 1000000
namespace Go.Am.Ring
open Go.Am.G
theorem views2 {m : LMem} {x v v' : LV} {ids : List Nat} (h : ∀ k,view (k + 3) m v = some (v',ids)) (hx : x.pure = true) (hv : v.pure = false) : views m [x,v] = some ([x,v'],ids) := by
  show viewL 100 m _ = _
  rw [viewL.eq_def]
  simp only [show LV.pures [x,v] = false by simp [LV.pures,hv],cond_false]
  rw [viewC.eq_def]
  simp only [view_pure 96 m x hx]
  rw [viewC.eq_def]
  simp only [h 94]
  rw [viewC.eq_def]
  simp only [List.append_nil,List.nil_append]
def bstep (P : List (Nat × Nat)) (out : List (List Nat)) (o : List Nat) : List (List Nat) := if out = [] then [o] else if contr P o < contr P (out.headD []) then [o] else if contr P o = contr P (out.headD []) then out ++ [o] else out
theorem bstep_all (P : List (Nat × Nat)) : ∀ (l out : List (List Nat)),l.foldl (bstep P) out = bestS P out l
  | [],out => rfl
  | o :: r,out => by rw [List.foldl_cons,bestS,← bstep_all P r]; rfl
def fewB (P : List (Nat × Nat)) (B : List (List Nat)) : Nat := if B = [] then 100 else contr P (B.headD [])
def tabB (B : List (List Nat)) : List Bool := if B = [] then List.replicate 36 false else surC B
theorem tabB_len (B : List (List Nat)) : (tabB B).length = 36 := by unfold tabB; split; rfl; exact surC_len _
structure BI (n : Nat) (P : List (Nat × Nat)) (fv : LV) (s : Nat × List (List Nat)) (O : List Nat) (m : LMem) : Prop where
  ok : ∀ o ∈ s.2,o ∈ ords n
  len : s.2.length ≤ s.1
  c1 : m[1]? = some ⟨[.int .i64 (n : Int)],true⟩
  c2 : m[2]? = some ⟨[fv],true⟩
  c3 : m[3]? = some ⟨[.int .i64 ((fewB P s.2 : Nat) : Int)],true⟩
  c4 : m[4]? = some ⟨[.int .i64 (s.2.length : Int)],true⟩
  c6 : m[6]? = some ⟨bools (tabB s.2),true⟩
  c7 : m[7]? = some ⟨[.bool true],true⟩
  c8 : m[8]? = some ⟨[.int .i64 (s.1 : Int)],true⟩
  c5 : (s.2 = [] ∧ m[5]? = some ⟨[.lst true true 0 0 []],true⟩ ∧ O = [1,2,3,4,5,6,7,8]) ∨ (s.2 ≠ [] ∧ ∃ br w,8 < br ∧ m[5]? = some ⟨[.sl br 0 n n 1 1 n],true⟩ ∧ m[br]? = some ⟨ints (ci (s.2.headD [])),w⟩ ∧ O = [1,2,3,4,5,6,7,8,br])
theorem BI.mem {n : Nat} {P : List (Nat × Nat)} {fv : LV} {s : Nat × List (List Nat)} {O : List Nat} {m : LMem} (h : BI n P fv s O m) : ∀ i ∈ [1,2,3,4,5,6,7,8],i ∈ O := by
  intro i hi
  rcases h.c5 with ⟨_,_,rfl⟩ | ⟨_,br,w,_,_,_,rfl⟩
  · exact hi
  · have : [1,2,3,4,5,6,7,8,br] = [1,2,3,4,5,6,7,8] ++ [br] := rfl
    rw [this]; exact List.mem_append_left _ hi
theorem BI.at {n : Nat} {P : List (Nat × Nat)} {fv : LV} {s : Nat × List (List Nat)} {O : List Nat} {m m' : LMem} (h : BI n P fv s O m) (e : ∀ i ∈ O,m'[i]? = m[i]?) : BI n P fv s O m' := by
  have hm := h.mem
  refine ⟨h.ok,h.len,by rw [e 1 (hm 1 (by simp))]; exact h.c1,by rw [e 2 (hm 2 (by simp))]; exact h.c2,by rw [e 3 (hm 3 (by simp))]; exact h.c3,by rw [e 4 (hm 4 (by simp))]; exact h.c4,by rw [e 6 (hm 6 (by simp))]; exact h.c6,by rw [e 7 (hm 7 (by simp))]; exact h.c7,by rw [e 8 (hm 8 (by simp))]; exact h.c8,?_⟩
  rcases h.c5 with ⟨h1,h2,h3⟩ | ⟨h1,br,w,h2,h3,h4,h5⟩
  · exact .inl ⟨h1,by rw [e 5 (hm 5 (by simp))]; exact h2,h3⟩
  · exact .inr ⟨h1,br,w,h2,by rw [e 5 (hm 5 (by simp))]; exact h3,by rw [e br (by rw [h5]; simp)]; exact h4,h5⟩
theorem BI.lt {n : Nat} {P : List (Nat × Nat)} {fv : LV} {s : Nat × List (List Nat)} {O : List Nat} {m : LMem} (h : BI n P fv s O m) : ∀ i ∈ O,i < m.length := by
  have h8 := get_lt h.c8
  intro i hi
  rcases h.c5 with ⟨_,_,rfl⟩ | ⟨_,br,w,_,_,h4,rfl⟩
  · simp at hi; omega
  · have := get_lt h4
    simp at hi; omega
theorem Exn.setq {m m1 : LMem} {O : List Nat} (h : Exn m m1 O) {j : Nat} {b : LBlk} (hj : j ∈ O) (hq : m.length < m1.length) (hb : ∀ i,i ≠ m.length → LV.noRefs i b.cells = true) : Exn m (m1.set j b) O :=
  ⟨by simpa using h.len,fun i hi hn => by
    have : ¬ j = i := fun e => hn (e ▸ hj)
    rw [List.getElem?_set_ne this,h.keep i hi hn],fun i hi hN => (h.nr i hi hN).set (hb i (by omega)),fun hC i hi => by
    rw [List.length_set] at hi
    exact (h.cl hC i hi).set (hb i (by omega))⟩
def cFst : LCode → LCode | .seq a _ => a | c => c
def cSnd : LCode → LCode | .seq _ b => b | c => c
theorem best_B {n : Nat} {P : List (Nat × Nat)} (G : Good n P) (a b : Bool) (z : Nat) {o : List Nat} (ho : o ∈ ords n) (k q : Nat) (hk : k < 1000000) (M : LMem) (h8q : 8 < q) (c1 : M[1]? = some ⟨[.int .i64 (n : Int)],true⟩) (c2 : M[2]? = some ⟨[FN a b z P],true⟩) (c7 : M[7]? = some ⟨[.bool true],true⟩) (c8 : M[8]? = some ⟨[.int .i64 (k : Int)],true⟩) (cq : M[q]? = some ⟨ints (ci o),true⟩) :
    ∃ e M3 w,exF LP (cFst (cSnd law04_RingBest_1.B)) [(0,.sl q 0 n n 1 1 n),(1,.ptr 2 0 1),(2,.ptr 8 0 1),(3,.ptr 1 0 1),(4,.ptr 7 0 1),(5,.ptr 3 0 1),(6,.ptr 4 0 1),(7,.ptr 5 0 1),(8,.ptr 6 0 36),(10,.int .u64 ((msk P o : Nat) : Int))] M = some (.normal,e,M3) ∧
      LEnv.at e 0 = .sl q 0 n n 1 1 n ∧ LEnv.at e 5 = .ptr 3 0 1 ∧ LEnv.at e 6 = .ptr 4 0 1 ∧ LEnv.at e 7 = .ptr 5 0 1 ∧ LEnv.at e 8 = .ptr 6 0 36 ∧ LEnv.at e 10 = .int .u64 ((msk P o : Nat) : Int) ∧
      M3.length = M.length ∧ M3[8]? = some ⟨[.int .i64 ((k + 1 : Nat) : Int)],true⟩ ∧ M3[q]? = some ⟨ints (ci o),w⟩ ∧ (∀ i,i ≠ 8 → i ≠ q → M3[i]? = M[i]?) ∧ ∀ O,8 ∈ O → Exn M M3 (q :: O) := by
  have h12 := G.le12
  have hol := (ords_ok ho).2.1
  have hw := wrap_succ (show k + 1 < 9223372036854775808 by omega)
  have hl8 := get_lt c8
  have hlq := get_lt cq
  have s8 : (M.set 8 ⟨[.int .i64 ((k + 1 : Nat) : Int)],true⟩)[8]? = some ⟨[.int .i64 ((k + 1 : Nat) : Int)],true⟩ := List.getElem?_set_self hl8
  have s2 : (M.set 8 ⟨[.int .i64 ((k + 1 : Nat) : Int)],true⟩)[2]? = some ⟨[FN a b z P],true⟩ := by rw [List.getElem?_set_ne (by omega)]; exact c2
  have s1 : (M.set 8 ⟨[.int .i64 ((k + 1 : Nat) : Int)],true⟩)[1]? = some ⟨[.int .i64 (n : Int)],true⟩ := by rw [List.getElem?_set_ne (by omega)]; exact c1
  have sq : (M.set 8 ⟨[.int .i64 ((k + 1 : Nat) : Int)],true⟩)[q]? = some ⟨ints (ci o),true⟩ := by rw [List.getElem?_set_ne (by omega)]; exact cq
  have s7 : (M.set 8 ⟨[.int .i64 ((k + 1 : Nat) : Int)],true⟩)[7]? = some ⟨[.bool true],true⟩ := by rw [List.getElem?_set_ne (by omega)]; exact c7
  have hE1 : ∀ O,8 ∈ O → Exn M (M.set 8 ⟨[.int .i64 ((k + 1 : Nat) : Int)],true⟩) (q :: O) := fun O hO => Exn.set _ (List.mem_cons_of_mem _ hO) fun j => rfl
  have hoth : ∀ i,i ≠ 8 → (M.set 8 ⟨[.int .i64 ((k + 1 : Nat) : Int)],true⟩)[i]? = M[i]? := fun i hi => by rw [List.getElem?_set_ne (fun e => hi e.symm)]
  have r1 := fun (x : Int) => bin_rem (k := .i64) (a := x) (b := 9) (by omega)
  have lP : lenL (FN a b z P) = some P.length := by rw [FN_eq]; rfl
  have hpF : LV.pure (FN a b z P) = true := rfl
  by_cases c : (((k + 1 : Nat) : Int)).tmod 9 = ((P.length : Int)).tmod 9
  · have hA := agnP_c a b false false z 1 (n : Int) (P.map castP) (ci o) (by simp; omega) (by rw [ci_len,hol]; have := G.le6; omega) []
    rw [agn_ord G ho] at hA
    dsimp only at hA
    have hmk := mskK_lt P o P.length h12
    have hnl := num_le (msk P o)
    obtain ⟨na,nb,nz,hnz,hnum⟩ := numbers_c (S := msk P o) hmk
    obtain ⟨M2,hG1,hk2,hl2,hs2⟩ := call_shown2 lp_ring_Against rfl (views3 (fun k => view_ord sq n hol k) rfl hpF rfl) (by simp [LV.pures,LV.pure]) hA
    obtain ⟨w,hq2⟩ := hs2 q _ _ sq
    have hk2' : ∀ i,i ≠ q → M2[i]? = (M.set 8 ⟨[.int .i64 ((k + 1 : Nat) : Int)],true⟩)[i]? := fun i hi => hk2 i (by simpa using hi)
    have t7 : M2[7]? = some ⟨[.bool true],true⟩ := by rw [hk2' 7 (by omega)]; exact s7
    have hl7 := get_lt t7
    have hset7 : M2.set 7 ⟨[.bool true],true⟩ = M2 := set_same t7
    have hsame := fun m => same_c false false na nb 1 nz (ci (numL (msk P o))) (ci (numL (msk P o))) (by rw [ci_len]; omega) (by rw [ci_len]; omega) m
    have hRL : ∀ m,clF LP n_law04_same [RL (ci (numL (msk P o))),IL na nb nz (ci (numL (msk P o)))] m = some (.P,.bool true,m) := by
      intro m
      by_cases c0 : ci (numL (msk P o)) = []
      · have := same_c true true na nb 0 nz [] [] (by simp) (by simp) m
        rw [c0]; exact this
      · rw [RL_ne c0]
        have := hsame m
        rw [decide_eq_true rfl] at this
        exact this
    refine ⟨[(0,.sl q 0 n n 1 1 n),(5,.ptr 3 0 1),(6,.ptr 4 0 1),(7,.ptr 5 0 1),(8,.ptr 6 0 36),(10,.int .u64 ((msk P o : Nat) : Int))],M2,w,?_,rfl,rfl,rfl,rfl,rfl,rfl,by rw [hl2,List.length_set],by rw [hk2' 8 (by omega)]; exact s8,hq2,fun i h1 h2 => by rw [hk2' i h2,hoth i h1],fun O hO => (hE1 O hO).trans (Exn.flag hl2 hk2 hs2 (q :: O) (by simp)) fun i hi => .inl hi⟩
    generalize RL (ci (numL (msk P o))) = rl at *
    generalize IL na nb nz (ci (numL (msk P o))) = nl at *
    generalize FN a b z P = FP at *
    simp only [law04_RingBest_1.B,law04_RingBest_1.B.R0,law04_RingBest_1.B.R1,cFst,cSnd,beqT,exF_seq,exF_region,exF_cond,runL,wantL,stepL,evL,evC,LEnv.at,putL,loadFine,loadL,cellsAt,Trk.putNew,Trk.up,Trk.touch,Trk.gives,Trk.calm,Trk.hit,opdsOf,Trk.fresh,LEnv.keep,List.map_cons,List.map_nil,nbeq,nble,ofAVs,bin_add,bin_eql,List.any_cons,List.any_nil,Bool.or_false,Bool.false_or,Bool.true_or,Bool.and_true,Nat.reduceEqDiff,decide_true,decide_false,cond_true,cond_false,List.filter_nil,Nat.reduceAdd,Nat.reduceLeDiff,reduceCtorEq,List.length_nil,List.length_cons,eq_self,List.append_nil,List.nil_append,LV.cells,List.getElem?_cons_zero,List.getElem?_cons_succ,storeL,spliceL,List.take_zero,List.take_succ_cons,List.drop_zero,List.drop_succ_cons,List.drop_nil,List.take_nil,Nat.le_refl,LV.scalar,List.all_cons,List.all_nil,c8,hw,s8,s2,s1,lP,r1,c,hG1,t7,hnum,hRL,hset7]
  · refine ⟨[(0,.sl q 0 n n 1 1 n),(1,.ptr 2 0 1),(3,.ptr 1 0 1),(4,.ptr 7 0 1),(5,.ptr 3 0 1),(6,.ptr 4 0 1),(7,.ptr 5 0 1),(8,.ptr 6 0 36),(10,.int .u64 ((msk P o : Nat) : Int)),(30,.bool false)],M.set 8 ⟨[.int .i64 ((k + 1 : Nat) : Int)],true⟩,true,?_,rfl,rfl,rfl,rfl,rfl,rfl,by rw [List.length_set],s8,sq,fun i h1 _ => hoth i h1,hE1⟩
    generalize FN a b z P = FP at *
    simp only [law04_RingBest_1.B,cFst,cSnd,exF_seq,exF_region,exF_cond,exF_skip,runL,wantL,stepL,evL,evC,LEnv.at,putL,loadFine,loadL,cellsAt,Trk.putNew,Trk.up,Trk.touch,Trk.gives,Trk.calm,Trk.hit,opdsOf,Trk.fresh,LEnv.keep,List.map_cons,List.map_nil,nbeq,nble,bin_add,bin_eql,List.any_cons,List.any_nil,Bool.or_false,Bool.false_or,Bool.true_or,Bool.and_true,Nat.reduceEqDiff,decide_true,decide_false,cond_true,cond_false,List.filter_nil,Nat.reduceAdd,Nat.reduceLeDiff,reduceCtorEq,List.length_nil,List.length_cons,eq_self,List.append_nil,List.nil_append,LV.cells,List.getElem?_cons_zero,storeL,spliceL,List.take_zero,List.take_succ_cons,List.drop_zero,List.drop_succ_cons,List.drop_nil,List.take_nil,Nat.le_refl,LV.scalar,List.all_cons,List.all_nil,c8,hw,s8,s2,lP,r1,c]
end Go.Am.Ring
set_option linter.unusedVariables false
set_option linter.unusedSimpArgs false
set_option maxRecDepth 10000
set_option maxHeartbeats 1000000
namespace Go.Am.Ring
open Go.Am.G
theorem best_more {n : Nat} {P : List (Nat × Nat)} (o : List Nat) (few : Nat) (q : Nat) (e : LEnv) (M : LMem) (e0 : LEnv.at e 0 = .sl q 0 n n 1 1 n) (e5 : LEnv.at e 5 = .ptr 3 0 1) (e10 : LEnv.at e 10 = .int .u64 ((msk P o : Nat) : Int)) (c3 : M[3]? = some ⟨[.int .i64 (few : Int)],true⟩)
    (hpc : clF LP n_math_bits_OnesCount [.int .u64 ((msk P o : Nat) : Int)] M = some (.P,.int .i64 ((contr P o : Nat) : Int),M)) (h : few < contr P o) : retL law04_RingBest_1.results (exF LP (cSnd (cSnd law04_RingBest_1.B)) e M) = some (.tup [],M) := by
  have h' : ((few : Nat) : Int) < ((contr P o : Nat) : Int) := by omega
  simp only [law04_RingBest_1,law04_RingBest_1.B,cSnd,exF_seq,exF_region,exF_cond,exF_ret,runL,wantL,stepL,evL,evC,LEnv.at,putL,loadFine,loadL,cellsAt,Trk.putNew,Trk.up,Trk.touch,Trk.gives,Trk.calm,Trk.hit,opdsOf,Trk.fresh,LEnv.keep,List.map_cons,List.map_nil,nbeq,nble,ofAVs,bin_gtr,List.any_cons,List.any_nil,Bool.or_false,Bool.false_or,Bool.true_or,Bool.and_true,Nat.reduceEqDiff,decide_true,decide_false,cond_true,cond_false,List.filter_nil,Nat.reduceAdd,Nat.reduceLeDiff,reduceCtorEq,List.length_nil,List.length_cons,eq_self,retL,resultsL,resAllL,List.append_nil,List.nil_append,List.getElem?_cons_zero,List.take_succ_cons,List.drop_zero,List.take_nil,Nat.le_refl,e0,e5,e10,hpc,c3,h']
theorem best_eq {n : Nat} {P : List (Nat × Nat)} (hn : n ≤ 6) {o : List Nat} (ho : o ∈ ords n) (B : List (List Nat)) (hB : B.length < 1000000) (few : Nat) (q : Nat) (e : LEnv) (M : LMem) (e0 : LEnv.at e 0 = .sl q 0 n n 1 1 n) (e5 : LEnv.at e 5 = .ptr 3 0 1) (e6 : LEnv.at e 6 = .ptr 4 0 1) (e8 : LEnv.at e 8 = .ptr 6 0 36) (e10 : LEnv.at e 10 = .int .u64 ((msk P o : Nat) : Int)) (h6 : 8 < q)
    (c3 : M[3]? = some ⟨[.int .i64 (few : Int)],true⟩) (c4 : M[4]? = some ⟨[.int .i64 (B.length : Int)],true⟩) (c6 : M[6]? = some ⟨bools (surC B),true⟩) {w : Bool} (cq : M[q]? = some ⟨ints (ci o),w⟩)
    (hpc : clF LP n_math_bits_OnesCount [.int .u64 ((msk P o : Nat) : Int)] M = some (.P,.int .i64 ((contr P o : Nat) : Int),M)) (h : contr P o = few) :
    retL law04_RingBest_1.results (exF LP (cSnd (cSnd law04_RingBest_1.B)) e M) = some (.tup [],(M.set 4 ⟨[.int .i64 ((B.length + 1 : Nat) : Int)],true⟩).set 6 ⟨bools (surC (B ++ [o])),true⟩) := by
  have h1 : ¬ ((few : Nat) : Int) < ((contr P o : Nat) : Int) := by omega
  have h2 : ¬ ((contr P o : Nat) : Int) < ((few : Nat) : Int) := by omega
  have hO := ords_ok ho
  have hw := wrap_succ (show B.length + 1 < 9223372036854775808 by omega)
  have ho6 : ∀ x ∈ o,x < 6 := fun x hx => Nat.lt_of_lt_of_le (hO.2.2.1 x hx) hn
  have h3 := best_L3 q n hn w 6 o hO.2.1 ho6 (by omega) n 0 (surC B) (M.set 4 ⟨[.int .i64 ((B.length + 1 : Nat) : Int)],true⟩) (by omega) (surC_len _) (by rw [List.getElem?_set_ne (by omega)]; exact c6) (by rw [List.getElem?_set_ne (by omega)]; exact cq)
  rw [List.drop_zero,clr_sur _ _ ho6] at h3
  simp only [Int.natCast_zero] at h3
  simp only [law04_RingBest_1,law04_RingBest_1.B,cSnd,exF_seq,exF_region,exF_block,exF_cond,exF_skip,runL,wantL,stepL,evL,evC,LEnv.at,putL,loadFine,loadL,cellsAt,Trk.putNew,Trk.up,Trk.touch,Trk.gives,Trk.calm,Trk.hit,opdsOf,Trk.fresh,LEnv.keep,List.map_cons,List.map_nil,nbeq,nble,ofAVs,lenL,bin_add,bin_lss,bin_gtr,List.any_cons,List.any_nil,Bool.or_false,Bool.false_or,Bool.true_or,Bool.and_true,Nat.reduceEqDiff,decide_true,decide_false,cond_true,cond_false,List.filter_nil,Nat.reduceAdd,Nat.reduceLeDiff,reduceCtorEq,List.length_nil,List.length_cons,eq_self,retL,resultsL,resAllL,List.append_nil,List.nil_append,LV.cells,List.getElem?_cons_zero,storeL,spliceL,List.take_zero,List.take_succ_cons,List.drop_zero,List.drop_succ_cons,List.drop_nil,List.take_nil,Nat.le_refl,LV.scalar,List.all_cons,List.all_nil,e0,e5,e6,e8,e10,hpc,c3,c4,h1,h2,hw,h3]
theorem best_less {n : Nat} {P : List (Nat × Nat)} (hn : n ≤ 6) {o : List Nat} (ho : o ∈ ords n) (C : List Bool) (hC : C.length = 36) (cnt : Nat) (x5 : LV) (few : Nat) (q : Nat) (e : LEnv) (M : LMem) (e0 : LEnv.at e 0 = .sl q 0 n n 1 1 n) (e5 : LEnv.at e 5 = .ptr 3 0 1) (e6 : LEnv.at e 6 = .ptr 4 0 1) (e7 : LEnv.at e 7 = .ptr 5 0 1) (e8 : LEnv.at e 8 = .ptr 6 0 36) (e10 : LEnv.at e 10 = .int .u64 ((msk P o : Nat) : Int)) (h6 : 8 < q)
    (c3 : M[3]? = some ⟨[.int .i64 (few : Int)],true⟩) (c4 : M[4]? = some ⟨[.int .i64 (cnt : Int)],true⟩) (c5 : M[5]? = some ⟨[x5],true⟩) (c6 : M[6]? = some ⟨bools C,true⟩) {w : Bool} (cq : M[q]? = some ⟨ints (ci o),w⟩)
    (hpc : clF LP n_math_bits_OnesCount [.int .u64 ((msk P o : Nat) : Int)] M = some (.P,.int .i64 ((contr P o : Nat) : Int),M)) (h : contr P o < few) :
    retL law04_RingBest_1.results (exF LP (cSnd (cSnd law04_RingBest_1.B)) e M) = some (.tup [],(((((M.set 3 ⟨[.int .i64 ((contr P o : Nat) : Int)],true⟩).set 4 ⟨[.int .i64 0],true⟩).set 5 ⟨[.sl q 0 n n 1 1 n],true⟩).set 6 ⟨bools (surC []),true⟩).set 4 ⟨[.int .i64 1],true⟩).set 6 ⟨bools (surC [o]),true⟩) := by
  have h1 : ¬ ((few : Nat) : Int) < ((contr P o : Nat) : Int) := by omega
  have h2 : ((contr P o : Nat) : Int) < ((few : Nat) : Int) := by omega
  have hO := ords_ok ho
  have ho6 : ∀ x ∈ o,x < 6 := fun x hx => Nat.lt_of_lt_of_le (hO.2.2.1 x hx) hn
  have l3 := get_lt c3
  have l4 := get_lt c4
  have l5 := get_lt c5
  have l6 := get_lt c6
  obtain ⟨M4,hM4⟩ : ∃ M4,M4 = ((M.set 3 ⟨[.int .i64 ((contr P o : Nat) : Int)],true⟩).set 4 ⟨[.int .i64 0],true⟩).set 5 ⟨[.sl q 0 n n 1 1 n],true⟩ := ⟨_,rfl⟩
  have g4 : (M.set 3 ⟨[.int .i64 ((contr P o : Nat) : Int)],true⟩)[4]? = some ⟨[.int .i64 (cnt : Int)],true⟩ := by rw [List.getElem?_set_ne (by omega)]; exact c4
  have g5 : ((M.set 3 ⟨[.int .i64 ((contr P o : Nat) : Int)],true⟩).set 4 ⟨[.int .i64 0],true⟩)[5]? = some ⟨[x5],true⟩ := by rw [List.getElem?_set_ne (by omega),List.getElem?_set_ne (by omega)]; exact c5
  have d4 : M4[4]? = some ⟨[.int .i64 0],true⟩ := by rw [hM4,List.getElem?_set_ne (by omega),List.getElem?_set_self (by simpa using l4)]
  have d6 : M4[6]? = some ⟨bools C,true⟩ := by rw [hM4,List.getElem?_set_ne (by omega),List.getElem?_set_ne (by omega),List.getElem?_set_ne (by omega)]; exact c6
  have dq : M4[q]? = some ⟨ints (ci o),w⟩ := by rw [hM4,List.getElem?_set_ne (by omega),List.getElem?_set_ne (by omega),List.getElem?_set_ne (by omega)]; exact cq
  have k6 := get_lt d6
  have k4 := get_lt d4
  have f1 := best_L1 (.sl q 0 n n 1 1 n) (.ptr 4 0 1) 6 6 0 C M4 (by omega) hC d6
  rw [Nat.zero_mul,show 6 * 6 = 36 from rfl,fill_sur C hC] at f1
  have u4 : (M4.set 6 ⟨bools (surC []),true⟩)[4]? = some ⟨[.int .i64 0],true⟩ := by rw [List.getElem?_set_ne (by omega)]; exact d4
  have h3 := best_L3 q n hn w 6 o hO.2.1 ho6 (by omega) n 0 (surC []) ((M4.set 6 ⟨bools (surC []),true⟩).set 4 ⟨[.int .i64 1],true⟩) (by omega) (surC_len _) (by rw [List.getElem?_set_ne (by omega),List.getElem?_set_self k6]) (by rw [List.getElem?_set_ne (by omega),List.getElem?_set_ne (by omega)]; exact dq)
  rw [List.drop_zero,clr_sur _ _ ho6,List.nil_append] at h3
  have hw1 : IntKind.i64.wrap (0 + 1) = 1 := by decide
  have hM4' : ((M.set 3 ⟨[.int .i64 ((contr P o : Nat) : Int)],true⟩).set 4 ⟨[.int .i64 0],true⟩).set 5 ⟨[.sl q 0 n n 1 1 n],true⟩ = M4 := hM4.symm
  rw [hM4']
  simp only [Int.natCast_zero] at h3 f1
  simp only [law04_RingBest_1,law04_RingBest_1.B,cSnd,exF_seq,exF_region,exF_block,exF_cond,exF_skip,runL,wantL,stepL,evL,evC,LEnv.at,putL,loadFine,loadL,cellsAt,Trk.putNew,Trk.up,Trk.touch,Trk.gives,Trk.calm,Trk.hit,opdsOf,Trk.fresh,LEnv.keep,List.map_cons,List.map_nil,nbeq,nble,ofAVs,lenL,bin_add,bin_lss,bin_gtr,List.any_cons,List.any_nil,Bool.or_false,Bool.false_or,Bool.true_or,Bool.and_true,Nat.reduceEqDiff,decide_true,decide_false,cond_true,cond_false,List.filter_nil,Nat.reduceAdd,Nat.reduceLeDiff,reduceCtorEq,List.length_nil,List.length_cons,eq_self,retL,resultsL,resAllL,List.append_nil,List.nil_append,LV.cells,List.getElem?_cons_zero,storeL,spliceL,List.take_zero,List.take_succ_cons,List.drop_zero,List.drop_succ_cons,List.drop_nil,List.take_nil,Nat.le_refl,LV.scalar,List.all_cons,List.all_nil,e0,e5,e6,e7,e8,e10,hpc,c3,g4,g5,hM4',h1,h2,f1,u4,hw1,h3]
theorem best_vis {n : Nat} {P : List (Nat × Nat)} (G : Good n P) (a b : Bool) (z : Nat) {s : Nat × List (List Nat)} {O : List Nat} {m : LMem} {o : List Nat} (h : BI n P (FN a b z P) s O m) (ho : o ∈ ords n) (hs : s.1 < 1000000) (h9 : 9 ≤ m.length) (hC : Cl m) :
    ∃ m' O',clF LP n_law04_RingBest_1 [.sl m.length 0 o.length o.length 1 1 o.length,.ptr 2 0 1,.ptr 8 0 1,.ptr 1 0 1,.ptr 7 0 1,.ptr 3 0 1,.ptr 4 0 1,.ptr 5 0 1,.ptr 6 0 36] (m ++ [⟨ints (ci o),true⟩]) = some (.W,.tup [],m') ∧ BI n P (FN a b z P) (s.1 + 1,bstep P s.2 o) O' m' ∧ Exn m m' O ∧ ∀ i ∈ O',i ∈ O ∨ m.length ≤ i := by
  have hO := ords_ok ho
  have h12 := G.le12
  have hol := hO.2.1
  have hpF : LV.pure (FN a b z P) = true := rfl
  have up : ∀ {i : Nat} {c : LBlk},m[i]? = some c → (m ++ [(⟨ints (ci o),true⟩ : LBlk)])[i]? = some c := fun h => by rw [List.getElem?_append_left (get_lt h)]; exact h
  have hML : (m ++ [(⟨ints (ci o),true⟩ : LBlk)]).length = m.length + 1 := by simp
  have hEM : ∀ O,Exn m (m ++ [(⟨ints (ci o),true⟩ : LBlk)]) O := fun O => Exn.app O fun j => noRefs_int j _ _
  have hmem := h.mem
  have hmlt := h.lt
  obtain ⟨e,M3,w,hB,e0,e5,e6,e7,e8,e10,hl3,c8,cq,hk3,hE3⟩ := best_B G a b z ho s.1 m.length hs (m ++ [⟨ints (ci o),true⟩]) (by omega) (up h.c1) (up h.c2) (up h.c7) (up h.c8) (get_last _ _)
  have k3 : ∀ i,i < m.length → i ≠ 8 → M3[i]? = m[i]? := fun i hi h8 => by rw [hk3 i h8 (by omega),List.getElem?_append_left hi]
  have hE : Exn m M3 O := (hEM O).trans (hE3 O (hmem 8 (by simp))) fun i hi => by
    rcases List.mem_cons.1 hi with rfl | hi
    · exact .inr (Nat.le_refl _)
    · exact .inl hi
  have c1 := (k3 1 (by omega) (by omega)).trans h.c1
  have c2 := (k3 2 (by omega) (by omega)).trans h.c2
  have c3 := (k3 3 (by omega) (by omega)).trans h.c3
  have c4 := (k3 4 (by omega) (by omega)).trans h.c4
  have c6 := (k3 6 (by omega) (by omega)).trans h.c6
  have c7 := (k3 7 (by omega) (by omega)).trans h.c7
  have hmk := mskK_lt P o P.length h12
  have hpc := pc_c (x := msk P o) hmk M3
  rw [msk_len G o] at hpc
  have hmask : clF LP n_law04_against [FN a b z P,.sl m.length 0 n n 1 1 n] (m ++ [⟨ints (ci o),true⟩]) = some (.P,.int .u64 ((msk P o : Nat) : Int),m ++ [⟨ints (ci o),true⟩]) :=
    call_view lp_law04_against rfl (views2 (fun k => view_ord (get_last _ _) n hol k) hpF rfl) (by simp [LV.pures,LV.pure]) (mask_c G a b z false false 1 o (by have := G.le6; omega) []) rfl
  -- the whole of it
  have fin : ∀ M',retL law04_RingBest_1.results (exF LP (cSnd (cSnd law04_RingBest_1.B)) e M3) = some (.tup [],M') → M'.length = m.length + 1 → clF LP n_law04_RingBest_1 [.sl m.length 0 o.length o.length 1 1 o.length,.ptr 2 0 1,.ptr 8 0 1,.ptr 1 0 1,.ptr 7 0 1,.ptr 3 0 1,.ptr 4 0 1,.ptr 5 0 1,.ptr 6 0 36] (m ++ [⟨ints (ci o),true⟩]) = some (.W,.tup [],M') := by
    intro M' hM' hl
    have c2' := up h.c2
    have hrun : retL law04_RingBest_1.results (exF LP law04_RingBest_1.body (LEnv.ofFrom 0 [.sl m.length 0 n n 1 1 n,.ptr 2 0 1,.ptr 8 0 1,.ptr 1 0 1,.ptr 7 0 1,.ptr 3 0 1,.ptr 4 0 1,.ptr 5 0 1,.ptr 6 0 36]) (m ++ [⟨ints (ci o),true⟩])) = some (.tup [],M') := by
      rw [show law04_RingBest_1.body = .seq (cFst law04_RingBest_1.B) (.seq (cFst (cSnd law04_RingBest_1.B)) (cSnd (cSnd law04_RingBest_1.B))) from rfl,exF_seq]
      rw [show exF LP (cFst law04_RingBest_1.B) (LEnv.ofFrom 0 [.sl m.length 0 n n 1 1 n,.ptr 2 0 1,.ptr 8 0 1,.ptr 1 0 1,.ptr 7 0 1,.ptr 3 0 1,.ptr 4 0 1,.ptr 5 0 1,.ptr 6 0 36]) (m ++ [⟨ints (ci o),true⟩]) = some (.normal,[(0,.sl m.length 0 n n 1 1 n),(1,.ptr 2 0 1),(2,.ptr 8 0 1),(3,.ptr 1 0 1),(4,.ptr 7 0 1),(5,.ptr 3 0 1),(6,.ptr 4 0 1),(7,.ptr 5 0 1),(8,.ptr 6 0 36),(10,.int .u64 ((msk P o : Nat) : Int))],m ++ [⟨ints (ci o),true⟩]) by
        generalize m ++ [(⟨ints (ci o),true⟩ : LBlk)] = M at *
        generalize FN a b z P = FP at *
        simp only [law04_RingBest_1.B,cFst,exF_region,runL,wantL,stepL,evL,evC,LEnv.at,putL,loadFine,loadL,cellsAt,Trk.calm,Trk.hit,LEnv.keep,LEnv.ofFrom,List.map_cons,List.map_nil,nbeq,nble,ofAVs,List.any_nil,Bool.or_false,Bool.false_or,Bool.true_or,Bool.and_true,Nat.reduceEqDiff,decide_true,decide_false,cond_true,cond_false,Nat.reduceAdd,Nat.reduceLeDiff,reduceCtorEq,List.length_nil,List.length_cons,eq_self,List.append_nil,List.nil_append,List.getElem?_cons_zero,List.take_succ_cons,List.drop_zero,List.take_nil,Nat.le_refl,c2',hmask]]
      simp only
      rw [exF_seq,hB]
      exact hM'
    rw [hol,call_W lp_law04_RingBest_1 rfl hrun,trim_le _ _ _ (by rw [hML,hl]; exact Nat.le_refl _)]
  have hq9 : 8 < m.length := by omega
  by_cases cm : fewB P s.2 < contr P o
  · -- more are gainsaid
    have hne : s.2 ≠ [] := by
      intro e
      rw [fewB,if_pos e] at cm
      have := List.countP_le_length (l := P) (p := fun p => decide (pos o p.2 < pos o p.1))
      have : contr P o ≤ P.length := this
      omega
    rw [fewB,if_neg hne] at cm
    refine ⟨M3,O,fin _ (best_more (n := n) (P := P) o _ m.length e M3 e0 e5 e10 c3 hpc (by rw [fewB,if_neg hne]; exact cm)) (by rw [hl3,hML]),?_,hE,fun i hi => .inl hi⟩
    rw [bstep,if_neg hne,if_neg (by omega),if_neg (by omega)]
    refine ⟨h.ok,by have := h.len; simp only; omega,c1,c2,c3,c4,c6,c7,c8,?_⟩
    rcases h.c5 with ⟨h1,_⟩ | ⟨h1,br,wb,h2,h3,h4,h5⟩
    · exact absurd h1 hne
    · refine .inr ⟨h1,br,wb,h2,by rw [k3 5 (by omega) (by omega)]; exact h3,?_,h5⟩
      rw [k3 br (get_lt h4) (by omega)]; exact h4
  · by_cases cl : contr P o < fewB P s.2
    · -- fewer
      obtain ⟨x5,c5⟩ : ∃ x5,M3[5]? = some ⟨[x5],true⟩ := by
        rw [k3 5 (by omega) (by omega)]
        rcases h.c5 with ⟨_,h2,_⟩ | ⟨_,br,wb,_,h3,_⟩
        · exact ⟨_,h2⟩
        · exact ⟨_,h3⟩
      have hr := best_less G.le6 ho (tabB s.2) (tabB_len _) s.2.length x5 _ m.length e M3 e0 e5 e6 e7 e8 e10 hq9 c3 c4 c5 c6 cq hpc cl
      have hlq : m.length < M3.length := by rw [hl3,hML]; omega
      have hst : bstep P s.2 o = [o] := by
        unfold bstep
        by_cases c0 : s.2 = []
        · rw [if_pos c0]
        · rw [fewB,if_neg c0] at cl
          rw [if_neg c0,if_pos cl]
      refine ⟨_,[1,2,3,4,5,6,7,8,m.length],fin _ hr (by simp [hl3]),?_,?_,fun i hi => ?_⟩
      · rw [hst]
        have l : ∀ i,i < 9 → i < M3.length := fun i hi => by omega
        refine ⟨by simpa using ho,by have := h.len; simp,?_,?_,?_,?_,?_,?_,?_,.inr ⟨by simp,m.length,w,hq9,?_,?_,rfl⟩⟩
        · simpa [List.getElem?_set] using c1
        · simpa [List.getElem?_set] using c2
        · simp [l 3 (by omega),fewB]
        · simp [l 4 (by omega)]
        · simp [l 6 (by omega),tabB]
        · simpa [List.getElem?_set] using c7
        · simpa [List.getElem?_set] using c8
        · simp [l 5 (by omega)]
        · have n3 : ¬ 3 = m.length := by omega
          have n4 : ¬ 4 = m.length := by omega
          have n5 : ¬ 5 = m.length := by omega
          have n6 : ¬ 6 = m.length := by omega
          rw [List.getElem?_set_ne n6,List.getElem?_set_ne n4,List.getElem?_set_ne n6,List.getElem?_set_ne n5,List.getElem?_set_ne n4,List.getElem?_set_ne n3]
          exact cq
      · have i3 := hmem 3 (by simp)
        have i4 := hmem 4 (by simp)
        have i5 := hmem 5 (by simp)
        have i6 := hmem 6 (by simp)
        have hb : ∀ (C : List Bool) (i : Nat),LV.noRefs i (bools C) = true := by
          intro C i
          induction C with
          | nil => rfl
          | cons a r ih => simp only [List.map_cons,LV.noRefs,LV.noRef,Bool.true_and]; exact ih
        refine Exn.setq (Exn.setq (Exn.setq (Exn.setq (Exn.setq (Exn.setq hE i3 hlq fun i _ => rfl) i4 ?_ fun i _ => rfl) i5 ?_ fun i hi => ?_) i6 ?_ fun i _ => hb _ i) i4 ?_ fun i _ => rfl) i6 ?_ fun i _ => hb _ i
        all_goals first
          | (simp only [List.length_set]; exact hlq)
          | skip
        simp only [LV.noRefs,LV.noRef,nbeq,Bool.and_true,Bool.not_eq_true',decide_eq_false_iff_not]
        exact fun e => hi e.symm
      · have : i ∈ [1,2,3,4,5,6,7,8] ∨ i = m.length := by simp at hi ⊢; omega
        rcases this with h1 | h1
        · exact .inl (hmem i h1)
        · exact .inr (by omega)
    · -- as few
      have hne : s.2 ≠ [] := by
        intro e
        rw [fewB,if_pos e] at cl
        have : contr P o ≤ P.length := List.countP_le_length
        omega
      have heq : contr P o = fewB P s.2 := by omega
      rw [tabB,if_neg hne] at c6
      have hr := best_eq G.le6 ho s.2 (by have := h.len; omega) _ m.length e M3 e0 e5 e6 e8 e10 hq9 c3 c4 c6 cq hpc heq
      have hlq : m.length < M3.length := by rw [hl3,hML]; omega
      have hst : bstep P s.2 o = s.2 ++ [o] := by
        rw [fewB,if_neg hne] at heq
        rw [bstep,if_neg hne,if_neg (by omega),if_pos heq]
      refine ⟨_,O,fin _ hr (by simp [hl3]),?_,?_,fun i hi => .inl hi⟩
      · rw [hst]
        have l : ∀ i,i < 9 → i < M3.length := fun i hi => by omega
        have hhd : (s.2 ++ [o]).headD [] = s.2.headD [] := by
          obtain ⟨x,r,e⟩ := List.exists_cons_of_ne_nil hne
          rw [e]; rfl
        refine ⟨fun x hx => by
          rcases List.mem_append.1 hx with hx | hx
          · exact h.ok x hx
          · rw [List.mem_singleton.1 hx]; exact ho,by have := h.len; simp only [List.length_append,List.length_singleton]; omega,?_,?_,?_,?_,?_,?_,?_,?_⟩
        · simpa [List.getElem?_set] using c1
        · simpa [List.getElem?_set] using c2
        · have : fewB P (s.2 ++ [o]) = fewB P s.2 := by rw [fewB,fewB,if_neg hne,if_neg (by simp),hhd]
          rw [this]
          simpa [List.getElem?_set] using c3
        · simp [l 4 (by omega)]
        · simp [l 6 (by omega),tabB]
        · simpa [List.getElem?_set] using c7
        · simpa [List.getElem?_set] using c8
        · rcases h.c5 with ⟨h1,_⟩ | ⟨h1,br,wb,h2,h3,h4,h5⟩
          · exact absurd h1 hne
          · have hbl := get_lt h4
            refine .inr ⟨by simp,br,wb,h2,?_,?_,h5⟩
            · have := k3 5 (by omega) (by omega)
              rw [List.getElem?_set_ne (by omega),List.getElem?_set_ne (by omega),this]; exact h3
            · rw [List.getElem?_set_ne (by omega),List.getElem?_set_ne (by omega),k3 br hbl (by omega),hhd]; exact h4
      · have i4 := hmem 4 (by simp)
        have i6 := hmem 6 (by simp)
        have hb : ∀ (C : List Bool) (i : Nat),LV.noRefs i (bools C) = true := by
          intro C i
          induction C with
          | nil => rfl
          | cons a r ih => simp only [List.map_cons,LV.noRefs,LV.noRef,Bool.true_and]; exact ih
        exact Exn.setq (Exn.setq hE i4 hlq fun i _ => rfl) i6 (by simpa using hlq) fun i _ => hb _ i
def bestVis {n : Nat} {P : List (Nat × Nat)} (G : Good n P) (a b : Bool) (z : Nat) : AVis (Nat × List (List Nat)) n 9 where
  I := BI n P (FN a b z P)
  vis := fun s o => (s.1 + 1,bstep P s.2 o)
  f := n_law04_RingBest_1
  cap := [.ptr 2 0 1,.ptr 8 0 1,.ptr 1 0 1,.ptr 7 0 1,.ptr 3 0 1,.ptr 4 0 1,.ptr 5 0 1,.ptr 6 0 36]
  size := fun s => s.1
  hsz := fun _ _ => Nat.le_refl _
  hI := fun _ _ _ _ h e => h.at e
  hlt := fun _ _ _ h => h.lt
  hT := by
    intro s O m k h hk hb i hi
    rcases h.c5 with ⟨_,_,rfl⟩ | ⟨_,br,w,_,h3,h4,rfl⟩
    · simp at hi; omega
    · have : i ∈ [1,2,3,4,5,6,7,8] ∨ i = br := by simp at hi ⊢; omega
      rcases this with h1 | rfl
      · simp at h1; omega
      · unfold belowM at hb
        rw [List.all_eq_true] at hb
        have := hb ⟨[.sl i 0 n n 1 1 n],true⟩ (by
          have g : (m.take k)[5]? = m[5]? := by rw [List.getElem?_take,if_pos (by omega)]
          rw [h3] at g
          exact List.mem_of_getElem? g)
        simpa only [LV.unders,LV.under,Bool.and_true,nblt,decide_eq_true_eq] using this
  hvis := fun _ _ _ _ h ho hs h9 hC => best_vis G a b z h ho hs h9 hC
theorem best_fold (P : List (Nat × Nat)) : ∀ (l : List (List Nat)) (s : Nat × List (List Nat)),l.foldl (fun s o => (s.1 + 1,bstep P s.2 o)) s = (s.1 + l.length,bestS P s.2 l)
  | [],s => rfl
  | o :: r,s => by
    rw [List.foldl_cons,best_fold P r,← bstep_all,← bstep_all,List.foldl_cons,List.length_cons]
    simp only
    congr 1; omega
end Go.Am.Ring
