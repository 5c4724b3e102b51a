import Derived.Test.YtcckhkcchpfdoaaShareH3
import Derived.Test.YtcckhkcchpfdoaaLm10
import Derived.Test.YtcckhkcchpfdoaaAm17
import Derived.Below
import Derived.ChangeSlices
import Derived.Deep.Matrix
import Derived.OpenShut
import Derived.Carry
set_option linter.unusedVariables false
set_option linter.unusedSimpArgs false
set_option maxRecDepth 10000
set_option maxHeartbeats 400000
namespace Go.Am.Share
open Go.Am.G
theorem freeP_s (nl ex : Bool) (sz : Nat) (rs : List Row) (hl : rs.length < 1000000) (hr : ∀ r ∈ rs,r.l.length < 1000000) : ∃ nl' ex' sz',(freeV (vals rs) = [] ∨ sz' = 1) ∧ (nl' = true → freeV (vals rs) = []) ∧ ∀ m,clF LP n_share_Free [VL nl ex sz rs] m = some (.P,.tup [IL nl' ex' sz' (freeV (vals rs)),.int .i64 (freeE (vals rs))],m) := by
  have hc := fun m => check_c nl ex sz rs hl hr m
  unfold freeE freeV
  by_cases h1 : chkV (vals rs) = 0
  · have D := vok_of h1
    obtain ⟨m',e1,e2,e3⟩ := each_free nl ex sz D
    have hlen : ∀ q ∈ allD rs.length ((vals rs).getD 0 []).length,q.length = ((vals rs).getD 0 []).length := fun q hq => (allD_mem _ _ q hq).1
    rw [if_pos h1,if_neg (by simpa using h1)]
    unfold fairs
    rw [vals_length]
    have hmem : ∀ q,((allD rs.length ((vals rs).getD 0 []).length).filter (fairI (vals rs))).head? = some q → q.length = ((vals rs).getD 0 []).length := fun q hq => by
      have := List.mem_of_mem_head? hq
      exact hlen q (List.mem_filter.1 this).1
    generalize (allD rs.length ((vals rs).getD 0 []).length).filter (fairI (vals rs)) = R at *
    generalize ((vals rs).getD 0 []).length = L at *
    cases R with
    | nil =>
      have e2 := e2 rfl
      subst e2
      refine ⟨true,true,0,.inl rfl,fun _ => rfl,fun m => call_P lp_share_Free rfl (by simp [LV.pures,LV.pure]) (m1 := [⟨[.bool false],true⟩,⟨[LNIL],true⟩]) ?_ (by simp [LV.pures,LV.pure]) m⟩
      simp only [share_Free,share_Free.B,exF_seq,exF_region,exF_cond,exF_ret,exF_skip,runL,wantL,stepL,evL,evC,LEnv.at,putL,loadFine,loadL,cellsAt,Trk.calm,Trk.hit,LEnv.keep,LEnv.ofFrom,List.map_cons,List.map_nil,nbeq,nble,ofAV,ofAVs,bin_neq,List.any_nil,Bool.or_false,Bool.or_true,Bool.and_true,Bool.false_and,Bool.not_true,Bool.not_false,Nat.reduceEqDiff,decide_true,decide_false,cond_true,cond_false,Nat.reduceAdd,Nat.reduceLeDiff,reduceCtorEq,List.length_nil,List.length_cons,if_true,eq_self,retL,resultsL,resAllL,resOfL,List.append_nil,List.nil_append,List.cons_append,not_true_eq_false,ne_eq,unL,LV.cells,allocL,List.getElem?_cons_zero,storeL,spliceL,List.take_zero,List.take_succ_cons,List.drop_zero,List.drop_succ_cons,List.drop_nil,List.take_nil,Nat.le_refl,List.set_cons_zero,LV.scalar,List.all_cons,List.all_nil,hc,h1,e1]
      rfl
    | cons q r =>
      obtain ⟨f1,f2,f3⟩ := e3 q rfl
      have hq := hmem q rfl
      have hne : ¬ (q :: r = []) := by simp
      rw [if_neg hne,List.headD_cons]
      by_cases h : L = 0
      · subst h
        obtain rfl : q = [] := List.length_eq_zero_iff.1 hq
        simp only [CV,if_true] at f2
        refine ⟨false,true,0,.inl rfl,fun _ => rfl,fun m => call_P lp_share_Free rfl (by simp [LV.pures,LV.pure]) (m1 := m') ?_ (by simp [LV.pures,LV.pure]) m⟩
        simp only [share_Free,share_Free.B,exF_seq,exF_region,exF_cond,exF_ret,exF_skip,runL,wantL,stepL,evL,evC,LEnv.at,putL,loadFine,loadL,cellsAt,Trk.calm,Trk.hit,LEnv.keep,LEnv.ofFrom,List.map_cons,List.map_nil,nbeq,nble,ofAV,ofAVs,bin_neq,List.any_nil,Bool.or_false,Bool.false_or,Bool.true_or,Bool.and_true,Bool.not_true,Nat.reduceEqDiff,decide_true,decide_false,cond_true,cond_false,Nat.reduceAdd,Nat.reduceLeDiff,reduceCtorEq,List.length_nil,List.length_cons,eq_self,retL,resultsL,resAllL,resOfL,List.append_nil,List.nil_append,List.cons_append,not_true_eq_false,ne_eq,unL,LV.cells,allocL,List.getElem?_cons_zero,storeL,spliceL,List.take_zero,List.take_succ_cons,List.drop_zero,List.drop_succ_cons,List.drop_nil,List.take_nil,Nat.le_refl,List.set_cons_zero,LV.scalar,List.all_cons,List.all_nil,hc,h1,e1,f1,f2]
        rfl
      · have f3 := f3 h
        simp only [CV,if_neg h] at f2
        have hv := view_slq m' 8 L 1 q true 0 f3 hq
        refine ⟨false,Nat.beq 1 0,1,.inr rfl,(fun h => by cases h),fun m => call_Pv lp_share_Free rfl (by simp [LV.pures,LV.pure]) ?_ hv m⟩
        simp only [share_Free,share_Free.B,exF_seq,exF_region,exF_cond,exF_ret,exF_skip,runL,wantL,stepL,evL,evC,LEnv.at,putL,loadFine,loadL,cellsAt,Trk.calm,Trk.hit,LEnv.keep,LEnv.ofFrom,List.map_cons,List.map_nil,nbeq,nble,ofAV,ofAVs,bin_neq,List.any_nil,Bool.or_false,Bool.false_or,Bool.true_or,Bool.and_true,Bool.not_true,Nat.reduceEqDiff,decide_true,decide_false,cond_true,cond_false,Nat.reduceAdd,Nat.reduceLeDiff,reduceCtorEq,List.length_nil,List.length_cons,eq_self,retL,resultsL,resAllL,resOfL,List.append_nil,List.nil_append,List.cons_append,not_true_eq_false,ne_eq,unL,LV.cells,allocL,List.getElem?_cons_zero,storeL,spliceL,List.take_zero,List.take_succ_cons,List.drop_zero,List.drop_succ_cons,List.drop_nil,List.take_nil,Nat.le_refl,List.set_cons_zero,LV.scalar,List.all_cons,List.all_nil,hc,h1,e1,f1,f2]
  · rw [if_neg h1,if_pos (by simpa using h1)]
    refine ⟨true,true,0,.inl rfl,fun _ => rfl,fun m => call_P lp_share_Free rfl (by simp [LV.pures,LV.pure]) (m1 := []) ?_ (by simp [LV.pures,LV.pure]) m⟩
    simp only [share_Free,share_Free.B,exF_seq,exF_region,exF_cond,exF_ret,runL,wantL,stepL,evL,evC,LEnv.at,putL,loadFine,LEnv.keep,LEnv.ofFrom,List.map_cons,List.map_nil,nbeq,ofAVs,bin_neq,Nat.reduceEqDiff,decide_true,decide_false,cond_true,cond_false,reduceCtorEq,eq_self,retL,resultsL,resAllL,resOfL,List.append_nil,List.nil_append,not_false_eq_true,ne_eq,hc,h1]
    rfl
theorem Fl.lst {m m' : LMem} {v : LV} {n : Nat} {cs : List LV} (h : Lst m v 1 n cs) (e : ∀ i,isBlk v i → m'[i]? = m[i]?) : Lst m' v 1 n cs := h.mono e
theorem named_L0 (R : List (List Int)) (hr : 0 < R.length ∧ R.length ≤ 4) (h6 : ∀ j,(R.getD j []).length ≤ 5) (s : Nat) (hs : s < 256) (b : Nat) (d : Nat) : ∀ (i : Nat) (m : LMem) (vm vw : LV),i + d = R.length → m[b]? = some ⟨R.map RL,true⟩ → Lst m vm 1 i ((rotR R s i).map RL) → Lst m vw 1 i (((widR R).take i).map RL) → ¬ isBlk vm b → ¬ isBlk vw b → (∀ j,isBlk vm j → ¬ isBlk vw j) → (0 < i → isSl vm) → (0 < i → isSl vw) →
    ∃ m' vm' vw',exF LP law07_ShareNamed.L0 [(1,.int .u8 (s : Int)),(5,SLv b R.length),(6,vm),(7,vw),(22,.int .i64 (R.length : Int)),(23,.int .i64 (i : Int))] m =
      some (.exit 0,[(5,SLv b R.length),(6,vm'),(7,vw')],m') ∧ m'[b]? = some ⟨R.map RL,true⟩ ∧ Lst m' vm' 1 R.length ((rotR R s R.length).map RL) ∧ Lst m' vw' 1 R.length ((widR R).map RL) ∧ (∀ j,isBlk vm' j → ¬ isBlk vw' j) ∧ ¬ isBlk vm' b ∧ isSl vm' ∧ isSl vw' := by
  induction d with
  | zero =>
    intro i m vm vw hi hb Hm Hw n1 n2 n3 s1 s2
    obtain rfl : i = R.length := by omega
    rw [List.take_of_length_le (by rw [widR_len]; exact Nat.le_refl _)] at Hw
    refine ⟨m,vm,vw,?_,hb,Hm,Hw,n3,n1,s1 hr.1,s2 hr.1⟩
    rw [law07_ShareNamed.L0_eq]
    simp only [law07_ShareNamed.B0,exF_seq,exF_region,exF_cond,exF_exit,runL,wantL,stepL,evL,LEnv.at,putL,loadFine,LEnv.keep,List.map_cons,List.map_nil,nbeq,bin_lss,Nat.reduceEqDiff,decide_true,decide_false,cond_true,cond_false,eq_self,Int.lt_irrefl]
  | succ d ih =>
    intro i m vm vw hi hb Hm Hw n1 n2 n3 s1 s2
    have hir : i < R.length := by omega
    have hii : (i : Int) < (R.length : Int) := by omega
    have hws := wrap_succ (show i + 1 < 9223372036854775808 by omega)
    have hbm := get_lt' hb
    have hRl : (R.map RL).length = R.length := by simp
    have hat : ∀ j,j < R.length → (R.map RL)[j]? = some (RL (R.getD j [])) := fun j hj => by
      rw [List.getElem?_map,List.getElem?_eq_getElem hj,List.getD_eq_getElem?_getD,List.getElem?_eq_getElem hj]; rfl
    have hw0 : IntKind.i64.wrap (s : Int) = (s : Int) := wrap_in (by omega)
    have hw1 : IntKind.i64.wrap ((i : Int) + (s : Int)) = ((i + s : Nat) : Int) := by rw [wrap_in (by omega)]; omega
    have hrm := rem_nat (i + s) R.length (by omega)
    have hmod : (i + s) % R.length < R.length := Nat.mod_lt _ hr.1
    -- the row that is moved
    obtain ⟨vm1,m1,a1,a2,a3,a4,a5⟩ := Hm.append (x := .lst false true 1 1 [RL (R.getD ((i + s) % R.length) [])]) (k := 1) (bytes := 24) (news := [RL (R.getD ((i + s) % R.length) [])]) rfl rfl (by omega) (by omega) rfl
    have e1 : (rotR R s i).map RL ++ [RL (R.getD ((i + s) % R.length) [])] = (rotR R s (i + 1)).map RL := by rw [rotR_succ]; simp
    rw [e1] at a2
    have hb1 : m1[b]? = some ⟨R.map RL,true⟩ := by rw [a3 b hbm n1]; exact hb
    have hbm1 := get_lt' hb1
    have Hw1 : Lst m1 vw 1 i (((widR R).take i).map RL) := Hw.mono fun j hj => a3 j (Hw.lt j hj) fun h => n3 j h hj
    -- the row that becomes wider
    have h5 := h6 i
    have hcl := clone_c (decide (R.getD i [] = [])) (decide (R.getD i [] = [])) (bif decide (R.getD i [] = []) then 0 else 1) (R.getD i []) (by omega) m1 (by
      by_cases c : R.getD i [] = []
      · exact .inl c
      · exact .inr (by rw [decide_eq_false c]; rfl)) (by simp)
    have hRL : IL (decide (R.getD i [] = [])) (decide (R.getD i [] = [])) (bif decide (R.getD i [] = []) then 0 else 1) (R.getD i []) = RL (R.getD i []) := rfl
    rw [hRL] at hcl
    have hcl2 : clF LP n_slices_Clone_int_int [RL (R.getD i [])] m1 = some (.O,GV m1.length (R.getD i []),m1 ++ GM (R.getD i [])) := by
      rw [hcl]
      by_cases c : R.getD i [] = []
      · rw [if_pos c,c]; simp [GV,GM]
      · rw [if_neg c,GV,GM,if_neg c,if_neg c]
    have hap := append_grow m1 (R.getD i []) 0 true (by omega)
    generalize hrow : R.getD i [] = row at *
    have hne : row ++ [0] ≠ [] := by simp
    have hgm : GM (row ++ [0]) = [⟨ints (row ++ [0]),true⟩] := by rw [GM,if_neg hne]
    have hmw : (m1 ++ GM (row ++ [0]))[m1.length]? = some ⟨ints (row ++ [0]),true⟩ := by rw [hgm]; simp
    have hv : views (m1 ++ GM (row ++ [0])) [GV m1.length (row ++ [0])] = some ([RL (row ++ [0])],[m1.length]) := by
      have := views_one 92 (m1 ++ GM (row ++ [0])) (GV m1.length (row ++ [0])) _ _ (fun k => G.view_gv k _ m1.length (row ++ [0]) true (fun _ => hmw)) (by simp [LV.pures,LV.pure,GV])
      rw [if_neg hne] at this
      exact this
    have hfz : ∀ j,j < m1.length → (freeze [m1.length] (m1 ++ GM (row ++ [0])))[j]? = m1[j]? := fun j hj => by
      rw [Go.Am.G.freeze_get j _ _ (by simp; omega),List.getElem?_append_left hj]
    have Hw2 : Lst (freeze [m1.length] (m1 ++ GM (row ++ [0]))) vw 1 i (((widR R).take i).map RL) := Hw1.mono fun j hj => hfz j (Hw1.lt j hj)
    obtain ⟨vw1,m2,c1,c2,c3,c4,c5⟩ := Hw2.append (x := .lst false true 1 1 [RL (row ++ [0])]) (k := 1) (bytes := 24) (news := [RL (row ++ [0])]) rfl rfl (by omega) (by omega) rfl
    have hfl : (freeze [m1.length] (m1 ++ GM (row ++ [0]))).length = m1.length + 1 := by rw [Go.Am.G.freeze_length,hgm]; simp
    have e2 : ((widR R).take i).map RL ++ [RL (row ++ [0])] = ((widR R).take (i + 1)).map RL := by
      have : (widR R)[i]? = some (row ++ [0]) := by
        rw [widR,List.getElem?_map,List.getElem?_eq_getElem hir]
        rw [List.getD_eq_getElem?_getD,List.getElem?_eq_getElem hir] at hrow
        simp only [Option.getD_some] at hrow
        rw [← hrow]; rfl
      rw [List.take_add_one,this,List.map_append]; rfl
    rw [e2] at c2
    have hb2 : m2[b]? = some ⟨R.map RL,true⟩ := by rw [c3 b (by omega) n2,hfz b hbm1]; exact hb1
    have hm2 : Lst m2 vm1 1 (i + 1) ((rotR R s (i + 1)).map RL) := a2.mono fun j hj => by
      have hlt := a2.lt j hj
      have hnw : ¬ isBlk vw j := fun h => by
        rcases a5 j hj with q | q
        · exact n3 j q h
        · have := Hw.lt j h; omega
      rw [c3 j (by omega) hnw,hfz j hlt]
    obtain ⟨m',vm',vw',hex,r1,r2,r3,r4,r5,r6,r7⟩ := ih (i + 1) m2 vm1 vw1 (by omega) hb2 hm2 c2 (fun h => by
      rcases a5 b h with q | q
      · exact n1 q
      · omega) (fun h => by
      rcases c5 b h with q | q
      · exact n2 q
      · omega) (fun j hj hj2 => by
      rcases c5 j hj2 with q | q
      · rcases a5 j hj with q2 | q2
        · exact n3 j q2 q
        · have := Hw.lt j q; omega
      · have := a2.lt j hj; omega) (fun _ => app_sl a1) (fun _ => app_sl c1)
    refine ⟨m',vm',vw',?_,r1,r2,r3,r4,r5,r6,r7⟩
    rw [← hex,law07_ShareNamed.L0_eq]
    have hvR : ∀ M,views M [RL (R.getD ((i + s) % R.length) [])] = some ([RL (R.getD ((i + s) % R.length) [])],[]) := fun M => views_pures _ _ (by simp only [LV.pures,LV.pure,Bool.and_self])
    have hat1 := hat _ hmod
    have hat2 := hat i hir
    rw [hrow] at hat2
    have hcR : (RL (R.getD ((i + s) % R.length) [])).cells = some [RL (R.getD ((i + s) % R.length) [])] := rfl
    have hcg : (GV m1.length (row ++ [0])).cells = some [GV m1.length (row ++ [0])] := by rw [GV,if_neg hne]; rfl
    have hci : (LV.int .i64 0).cells = some [.int .i64 0] := rfl
    have hvx : ∀ (x : Int) m,views m [.int .i64 x] = some ([.int .i64 x],[]) := fun x m => views_pures m _ (by simp [LV.pures,LV.pure])
    have l0 : lenL (SLv b R.length) = some R.length := rfl
    generalize RL (R.getD ((i + s) % R.length) []) = rl1 at *
    generalize (i + s) % R.length = q at *
    generalize RL row = rl2 at *
    generalize RL (row ++ [0]) = rl3 at *
    generalize GV m1.length row = g1 at *
    generalize GV m1.length (row ++ [0]) = g2 at *
    generalize m1 ++ GM row = mm1 at *
    generalize m1 ++ GM (row ++ [0]) = mm2 at *
    generalize R.map RL = RR at *
    simp only [law07_ShareNamed.B0,law07_ShareNamed.B0.R0,law07_ShareNamed.B0.R1,exF_seq,exF_region,exF_block,exF_cond,exF_skip,runL,wantL,stepL,evL,evC,LEnv.at,putL,loadFine,loadL,cellsAt,Trk.putNew,Trk.up,Trk.touch,Trk.gives,Trk.calm,Trk.hit,opdsOf,Trk.fresh,LEnv.keep,List.map_cons,List.map_nil,nbeq,nble,nblt,ofAV,ofAVs,lenL,bin_add,bin_lss,natL_nat,List.any_cons,List.any_nil,Bool.or_false,Bool.false_or,Bool.true_or,Bool.and_true,Nat.reduceEqDiff,decide_true,decide_false,cond_true,cond_false,List.filter_nil,Nat.reduceAdd,Nat.reduceLeDiff,reduceCtorEq,List.length_nil,List.length_cons,Nat.mul_one,eq_self,List.append_nil,List.nil_append,Nat.reduceDiv,spliceL,List.take_zero,List.take_succ_cons,List.drop_succ_cons,List.drop_nil,List.take_nil,Nat.le_refl,fillL,hii,hir,hw0,hw1,hrm,hmod,Nat.zero_add,hb,hRl,hat1,hvR,hcR,freeze_nil,a1,hb1,hat2,hcl2,hci,hvx,hap,hcg,hv,c1,hws]
    try trace_state
end Go.Am.Share
set_option linter.unusedVariables false
set_option linter.unusedSimpArgs false
set_option maxRecDepth 10000
set_option maxHeartbeats 1000000
namespace Go.Am.Share
open Go.Am.G
theorem rev_done (v : LV) (i k : Int) (h : ¬ i < k) (m : LMem) : exF LP slices_Reverse_int_int.L0 [(0,v),(2,.int .i64 i),(3,.int .i64 k)] m = some (.exit 0,[],m) := by
  rw [slices_Reverse_int_int.L0_eq]
  simp only [slices_Reverse_int_int.B0,exF_seq,exF_region,exF_cond,exF_exit,runL,wantL,stepL,evL,LEnv.at,putL,loadFine,LEnv.keep,List.map_cons,List.map_nil,nbeq,bin_lss,Nat.reduceEqDiff,decide_true,decide_false,cond_true,cond_false,reduceCtorEq,eq_self,h]
theorem rev_step (j n : Nat) (hn : n ≤ 4) (i k : Nat) (hik : i < k) (hk : k < n) (cs : List LV) (hcs : cs.length = n) (a b : List Int) (ha : cs[i]? = some (RL a)) (hb : cs[k]? = some (RL b)) (m : LMem) (hm : m[j]? = some ⟨cs,true⟩) :
    exF LP slices_Reverse_int_int.L0 [(0,SLv j n),(2,.int .i64 (i : Int)),(3,.int .i64 (k : Int))] m = exF LP slices_Reverse_int_int.L0 [(0,SLv j n),(2,.int .i64 ((i + 1 : Nat) : Int)),(3,.int .i64 ((k - 1 : Nat) : Int))] (m.set j ⟨(cs.set i (RL b)).set k (RL a),true⟩) := by
  have hj := get_lt' hm
  have hii : (i : Int) < (k : Int) := by omega
  have hin : i < n := by omega
  have hw1 := wrap_succ (show i + 1 < 9223372036854775808 by omega)
  have hw2 : IntKind.i64.wrap ((k : Int) - 1) = ((k - 1 : Nat) : Int) := by rw [wrap_in (by omega)]; omega
  have s1 := take_set1 cs i (RL b) (by omega)
  have s2 := take_set1 (cs.set i (RL b)) k (RL a) (by simp; omega)
  have hm1 : (m.set j ⟨cs.set i (RL b),true⟩)[j]? = some ⟨cs.set i (RL b),true⟩ := List.getElem?_set_self hj
  have hl1 : (cs.set i (RL b)).length = n := by simp [hcs]
  have hca : (RL a).cells = some [RL a] := rfl
  have hcb : (RL b).cells = some [RL b] := rfl
  have hsa : LV.scalar (RL a) = true := rfl
  have hsb : LV.scalar (RL b) = true := rfl
  have n1 : ¬ m.length ≤ j := by omega
  rw [slices_Reverse_int_int.L0_eq]
  have l0 : lenL (SLv j n) = some n := rfl
  have i1 : i + 1 ≤ n := by omega
  have k1 : k + 1 ≤ n := by omega
  generalize (cs.set i (RL b)).set k (RL a) = C2 at *
  generalize cs.set i (RL b) = C1 at *
  generalize RL a = ra at *
  generalize RL b = rb at *
  simp only [slices_Reverse_int_int.B0,exF_seq,exF_region,exF_block,exF_cond,exF_skip,runL,wantL,stepL,evL,evC,LEnv.at,putL,loadFine,loadL,cellsAt,Trk.putNew,Trk.up,Trk.touch,Trk.gives,Trk.calm,Trk.hit,opdsOf,Trk.fresh,LEnv.keep,List.map_cons,List.map_nil,nbeq,nble,nblt,bin_add,bin_sub,bin_lss,natL_nat,List.any_cons,List.any_nil,Bool.or_false,Bool.or_true,Bool.and_true,Bool.false_and,Bool.not_true,Bool.not_false,Nat.reduceEqDiff,decide_true,decide_false,cond_true,cond_false,List.filter_nil,Nat.reduceAdd,reduceCtorEq,List.length_nil,List.length_cons,Nat.mul_one,eq_self,storeL,spliceL,Nat.le_refl,List.all_cons,List.all_nil,hii,hin,hk,Nat.zero_add,hm,hcs,ha,hb,n1,hca,hcb,hsa,hsb,s1,hm1,hl1,s2,List.set_set,hw1,hw2,i1,k1]
theorem rev_rl (l : List (List Int)) (h1 : 1 ≤ l.length) (h4 : l.length ≤ 4) (j : Nat) (m : LMem) (hm : m[j]? = some ⟨l.map RL,true⟩) : clF LP n_slices_Reverse_int_int [SLv j l.length] m = some (.W,.tup [],m.set j ⟨l.reverse.map RL,true⟩) := by
  have hj := get_lt' hm
  have hfin : ∀ M',exF LP slices_Reverse_int_int.L0 [(0,SLv j l.length),(2,.int .i64 0),(3,.int .i64 ((l.length - 1 : Nat) : Int))] m = some (.exit 0,[],M') → M'.length = m.length → clF LP n_slices_Reverse_int_int [SLv j l.length] m = some (.W,.tup [],M') := by
    intro M' hex hl
    have hw : IntKind.i64.wrap ((l.length : Int) - 1) = ((l.length - 1 : Nat) : Int) := by rw [wrap_in (by omega)]; omega
    have hrun : retL slices_Reverse_int_int.results (exF LP slices_Reverse_int_int.body (LEnv.ofFrom 0 [SLv j l.length]) m) = some (.tup [],M') := by
      simp only [slices_Reverse_int_int,slices_Reverse_int_int.B,exF_seq,exF_region,exF_block,runL,wantL,stepL,evL,evC,LEnv.at,putL,loadFine,LEnv.keep,LEnv.ofFrom,List.map_cons,List.map_nil,nbeq,lenL,bin_sub,Nat.reduceEqDiff,decide_true,decide_false,cond_true,cond_false,reduceCtorEq,eq_self,retL,resultsL,resAllL,hw,hex]
    rw [call_W lp_slices_Reverse_int_int rfl hrun,trim_le _ _ _ (by omega)]
  match l,h1,h4,hm,hfin with
  | [a],_,_,hm,hfin =>
    refine hfin _ ?_ (by simp)
    rw [rev_done _ _ _ (by simp)]
    congr 3
    exact (set_same' hm).symm
  | [a,b],_,_,hm,hfin =>
    refine hfin _ ?_ (by simp)
    have := rev_step j 2 (by omega) 0 1 (by omega) (by omega) [RL a,RL b] rfl a b rfl rfl m hm
    refine Eq.trans this ?_
    rw [rev_done _ _ _ (by simp)]
    rfl
  | [a,b,c],_,_,hm,hfin =>
    refine hfin _ ?_ (by simp)
    have := rev_step j 3 (by omega) 0 2 (by omega) (by omega) [RL a,RL b,RL c] rfl a c rfl rfl m hm
    refine Eq.trans this ?_
    rw [rev_done _ _ _ (by simp)]
    rfl
  | [a,b,c,d],_,_,hm,hfin =>
    refine hfin _ ?_ (by simp)
    have := rev_step j 4 (by omega) 0 3 (by omega) (by omega) [RL a,RL b,RL c,RL d] rfl a d rfl rfl m hm
    refine Eq.trans this ?_
    have := rev_step j 4 (by omega) 1 2 (by omega) (by omega) [RL d,RL b,RL c,RL a] rfl b c rfl rfl (m.set j ⟨[RL d,RL b,RL c,RL a],true⟩) (List.getElem?_set_self hj)
    refine Eq.trans this ?_
    rw [rev_done _ _ _ (by simp),List.set_set]
    rfl
theorem app_nl (m : LMem) (nl : Bool) (x : Int) : appendL m 1 8 (.lst nl true 0 0 []) (.lst false true 1 1 [.int .i64 x]) = some (GV m.length [x],m ++ GM [x]) := by
  simp [appendL,contents,newSl,LV.scalar,roomMost,nbeq,nble,GV,GM]
theorem named_L1 {R : List (List Int)} {n : Nat} (H : VGood R n) (hn : n ≤ 5) (jw : Nat) (fa fb : Bool) (fz : Nat) {l : List Int} (hl : l.length = n) (hr : ∀ x ∈ l,0 ≤ x ∧ x < (R.length : Int)) (hf : fairI R l = true) (hz : l = [] ∨ fz = 1) (hnl : fa = true → l = []) (d : Nat) : ∀ (i : Nat) (m : LMem),i + d = R.length → (∃ w,m[jw]? = some ⟨(widR R).map RL,w⟩) →
    ∃ m',exF LP law07_ShareNamed.L1 [(7,SLv jw R.length),(15,IL fa fb fz l),(111,.int .i64 (R.length : Int)),(112,.int .i64 (i : Int))] m = some (.exit 2,[],m') := by
  have h4 := H.le4
  induction d with
  | zero =>
    intro i m hi _
    refine ⟨m,?_⟩
    obtain rfl : i = R.length := by omega
    rw [law07_ShareNamed.L1_eq]
    generalize IL fa fb fz l = vl at *
    simp only [law07_ShareNamed.B1,exF_seq,exF_region,exF_cond,exF_exit,runL,wantL,stepL,evL,LEnv.at,putL,loadFine,LEnv.keep,List.map_cons,List.map_nil,nbeq,bin_lss,Nat.reduceEqDiff,decide_true,decide_false,cond_true,cond_false,eq_self,Int.lt_irrefl]
  | succ d ih =>
    intro i m hi hw
    have hir : i < R.length := by omega
    have hii : (i : Int) < (R.length : Int) := by omega
    have hws := wrap_succ (show i + 1 < 9223372036854775808 by omega)
    have hcl := clone_c fa fb fz l (by omega) m hz hnl
    have hne : l ++ [(i : Int)] ≠ [] := by simp
    have hgm : GM (l ++ [(i : Int)]) = [⟨ints (l ++ [(i : Int)]),true⟩] := by rw [GM,if_neg hne]
    obtain ⟨c1,m1,hc1,hap⟩ : ∃ c1 m1,clF LP n_slices_Clone_int_int [IL fa fb fz l] m = some (.O,c1,m1) ∧ appendL m1 1 8 c1 (.lst false true 1 1 [.int .i64 (i : Int)]) = some (GV m.length (l ++ [(i : Int)]),m ++ GM (l ++ [(i : Int)])) := by
      by_cases c : l = []
      · refine ⟨.lst fa true 0 0 [],m,by rw [hcl,if_pos c],?_⟩
        rw [c]
        exact app_nl m fa (i : Int)
      · refine ⟨GV m.length l,m ++ GM l,by rw [hcl,if_neg c,GV,GM,if_neg c,if_neg c],?_⟩
        exact append_grow m l (i : Int) true (by omega)
    obtain ⟨w,hw⟩ := hw
    have hw2 : (m ++ GM (l ++ [(i : Int)]))[jw]? = some ⟨(widR R).map RL,w⟩ := by rw [List.getElem?_append_left (get_lt' hw)]; exact hw
    have hmw : (m ++ GM (l ++ [(i : Int)]))[m.length]? = some ⟨ints (l ++ [(i : Int)]),true⟩ := by rw [hgm]; simp
    obtain ⟨f1,f2⟩ := fair_two H hn hl hr hf hir
    have hS : Sees (m ++ GM (l ++ [(i : Int)])) (SLv jw R.length) false (widR R) := by
      have := sees_val hw2
      rwa [widR_len] at this
    have hfair := fairP_c false false (decide (l ++ [(i : Int)] = [])) (decide (l ++ [(i : Int)] = [])) 1 (bif decide (l ++ [(i : Int)] = []) then 0 else 1) ((widR R).map rowR) (l ++ [(i : Int)]) ((widR_good H hn).inn (by simp; omega)) []
    rw [vals_rowR,f1,f2] at hfair
    obtain ⟨m2,hc2,hfl⟩ := call_2 lp_share_Fair rfl hS (shows_gv (b := m.length) (l := l ++ [(i : Int)]) (fun _ => ⟨true,hmw⟩)) hfair
    obtain ⟨m',hex⟩ := ih (i + 1) m2 (by omega) (hfl.2 _ _ _ hw2)
    refine ⟨m',?_⟩
    rw [← hex,law07_ShareNamed.L1_eq]
    have hvx : ∀ (x : Int) m,views m [.int .i64 x] = some ([.int .i64 x],[]) := fun x m => views_pures m _ (by simp [LV.pures,LV.pure])
    have hci : ∀ n : Int,(LV.int .i64 n).cells = some [.int .i64 n] := fun _ => rfl
    generalize IL fa fb fz l = vl at *
    generalize GV m.length (l ++ [(i : Int)]) = g2 at *
    generalize m ++ GM (l ++ [(i : Int)]) = mm at *
    simp only [law07_ShareNamed.B1,law07_ShareNamed.B1.R0,beqF,exF_seq,exF_region,exF_block,exF_cond,exF_skip,runL,wantL,stepL,evL,evC,LEnv.at,putL,loadFine,LEnv.keep,List.map_cons,List.map_nil,nbeq,nble,ofAV,ofAVs,bin_add,bin_neq,bin_lss,Bool.or_false,Bool.and_true,Bool.not_false,Nat.reduceEqDiff,decide_true,decide_false,cond_true,cond_false,Nat.reduceAdd,reduceCtorEq,List.length_nil,List.length_cons,Nat.mul_one,eq_self,List.append_nil,List.nil_append,not_true_eq_false,ne_eq,Nat.reduceDiv,List.getElem?_cons_zero,List.getElem?_cons_succ,spliceL,List.take_zero,List.take_succ_cons,List.drop_succ_cons,List.drop_nil,List.take_nil,Nat.le_refl,fillL,hii,hc1,hci,hvx,freeze_nil,hap,hc2,hws]
theorem lst_sl {m : LMem} {v : LV} {n : Nat} {cs : List LV} (h : Lst m v 1 n cs) (hs : isSl v) : ∃ j,v = SLv j n ∧ m[j]? = some ⟨cs,true⟩ := by
  rcases h with ⟨nl,ex,z,rfl,_⟩ | ⟨j,rfl,h1,_⟩
  · exact absurd hs (fun h => h)
  · exact ⟨j,by rw [Nat.mul_one],h1⟩
theorem named_in (ns : List Int) (hl : ns.length = 26) (hb : ∀ n ∈ ns,0 ≤ n ∧ n < 256) (tn : Int) (h1 : 0 ≤ tn ∧ tn < 256) :
    clF LP n_law07_ShareNamed [.agg (ns.map (LV.int .u8)),.int .u8 tn] [] = some (.P,.bool true,[]) := by
  obtain ⟨w,rfl,hwb⟩ := bytes_nat ns hb
  obtain ⟨s,rfl⟩ := Int.eq_ofNat_of_zero_le h1.1
  have hs : s < 256 := by omega
  rw [ci_ln] at hl
  show clF LP n_law07_ShareNamed [.agg (bys w),.int .u8 (s : Int)] [] = some (.P,.bool true,[])
  obtain ⟨b,m1,hmade,hm1,hbge,hk1⟩ := made_o w hl hwb 4 5 6 (by omega) (by omega) (by omega) [⟨bys w,true⟩]
  have hr := Nat.mod_lt (w.getD 0 0) (show 0 < 4 by omega)
  have hn := Nat.mod_lt (w.getD 1 0) (show 0 < 5 + 1 by omega)
  have hbl : (bys w).length = 26 := by simp [hl]
  have htk : (bys w).take 26 = bys w := List.take_of_length_le (by omega)
  have hps : LV.pures (bys w) = true := pures_int _ _
  generalize hn' : w.getD 1 0 % (5 + 1) = n at *
  generalize hr' : 1 + w.getD 0 0 % 4 = r at *
  have hr1 : 1 ≤ r := by omega
  have hr4 : r ≤ 4 := by omega
  have hG := rowsM_good w 6 n r (by omega) (by omega) hr1 hr4
  have hrl := rowsM_len w 6 n r
  generalize rowsM w 6 n r = R at *
  have hn5 : n ≤ 5 := by omega
  obtain ⟨m2,vm,vw,hex0,hb2,Hm,Hw,hdis,hnb,sm,sw⟩ := named_L0 R ⟨by omega,by omega⟩ (fun j => by
    by_cases c : j < R.length
    · rw [(hG.get c).1]; omega
    · rw [List.getD_eq_getElem?_getD,List.getElem?_eq_none (by omega)]; simp) s hs b R.length 0 m1 (.lst true true 0 0 []) (.lst true true 0 0 []) (by omega) hm1 (by rw [show (rotR R s 0).map RL = [] from rfl]; exact Lst.nil _ 1) (by rw [List.take_zero]; exact Lst.nil _ 1) (fun h => h) (fun h => h) (fun j h => absurd h (fun h => h)) (fun h => absurd h (by omega)) (fun h => absurd h (by omega))
  obtain ⟨jm,rfl,hjm⟩ := lst_sl Hm sm
  obtain ⟨jw,rfl,hjw⟩ := lst_sl Hw sw
  have hne1 : jm ≠ jw := fun e => hdis jm rfl e.symm
  have hne2 : jm ≠ b := fun e => hnb e
  have hrev := rev_rl (rotR R s R.length) (by rw [rotR_len]; omega) (by rw [rotR_len]; omega) jm m2 hjm
  rw [rotR_len] at hrev
  obtain ⟨M0,hM0⟩ : ∃ M0,M0 = m2.set jm ⟨(movR R s).map RL,true⟩ := ⟨_,rfl⟩
  have hrev : clF LP n_slices_Reverse_int_int [SLv jm R.length] m2 = some (.W,.tup [],M0) := by rw [hM0]; exact hrev
  have c1 : ∃ w,M0[b]? = some ⟨R.map RL,w⟩ := ⟨true,by rw [hM0,List.getElem?_set_ne hne2]; exact hb2⟩
  have c2 : ∃ w,M0[jm]? = some ⟨(movR R s).map RL,w⟩ := ⟨true,by rw [hM0,List.getElem?_set_self (get_lt' hjm)]⟩
  have c3 : ∃ w,M0[jw]? = some ⟨(widR R).map RL,w⟩ := ⟨true,by rw [hM0,List.getElem?_set_ne hne1]; exact hjw⟩
  have hGm := movR_good hG s
  have hGw := widR_good hG hn5
  have k1 := count_mov hG s
  have k2 := count_wide hG hn5
  have k3 := count_le hG
  have sees : ∀ {M : LMem} {j : Nat} {V : List (List Int)},V.length = R.length → (∃ w,M[j]? = some ⟨V.map RL,w⟩) → Sees M (SLv j R.length) false V := fun e ⟨w,h⟩ => by
    have := sees_val h
    rwa [e] at this
  have cnt := fun {V : List (List Int)} {q : Nat} (HV : VGood V q) => countP_c false false 1 (V.map rowR) HV.sizes.1 HV.sizes.2 []
  have q1 := cnt hG
  have q2 := cnt hGm
  have q3 := cnt hGw
  rw [vals_rowR,hG.chk] at q1
  rw [vals_rowR,hGm.chk,k1] at q2
  rw [vals_rowR,hGw.chk,k2] at q3
  obtain ⟨M1,g1,f1⟩ := call_1 lp_share_Count rfl (sees rfl c1) q1
  have c1 : ∃ w,M1[b]? = some ⟨R.map RL,w⟩ := by obtain ⟨w,h⟩ := c1; exact f1.2 _ _ _ h
  have c2 : ∃ w,M1[jm]? = some ⟨(movR R s).map RL,w⟩ := by obtain ⟨w,h⟩ := c2; exact f1.2 _ _ _ h
  have c3 : ∃ w,M1[jw]? = some ⟨(widR R).map RL,w⟩ := by obtain ⟨w,h⟩ := c3; exact f1.2 _ _ _ h
  obtain ⟨M2,g2,f2⟩ := call_1 lp_share_Count rfl (sees (movR_len R s) c2) q2
  have c1 : ∃ w,M2[b]? = some ⟨R.map RL,w⟩ := by obtain ⟨w,h⟩ := c1; exact f2.2 _ _ _ h
  have c3 : ∃ w,M2[jw]? = some ⟨(widR R).map RL,w⟩ := by obtain ⟨w,h⟩ := c3; exact f2.2 _ _ _ h
  obtain ⟨M3,g3,f3⟩ := call_1 lp_share_Count rfl (sees (widR_len R) c3) q3
  have c1 : ∃ w,M3[b]? = some ⟨R.map RL,w⟩ := by obtain ⟨w,h⟩ := c1; exact f3.2 _ _ _ h
  have c3 : ∃ w,M3[jw]? = some ⟨(widR R).map RL,w⟩ := by obtain ⟨w,h⟩ := c3; exact f3.2 _ _ _ h
  obtain ⟨fa,fb,fz,hz,hnl,hfree⟩ := freeP_s false false 1 (R.map rowR) hG.sizes.1 hG.sizes.2
  rw [vals_rowR] at hz hnl hfree
  obtain ⟨M4,g4,f4⟩ := call_1 lp_share_Free rfl (sees rfl c1) (hfree [])
  have c1 : ∃ w,M4[b]? = some ⟨R.map RL,w⟩ := by obtain ⟨w,h⟩ := c1; exact f4.2 _ _ _ h
  have c3 : ∃ w,M4[jw]? = some ⟨(widR R).map RL,w⟩ := by obtain ⟨w,h⟩ := c3; exact f4.2 _ _ _ h
  have hwm : IntKind.i64.wrap (countV R * (r : Int)) = countV R * (r : Int) := wrap_in (by
    have h1 : countV R * (r : Int) ≤ 4096 * 4 := Int.mul_le_mul k3.2 (by omega) (by omega) (by omega)
    have h2 : 0 ≤ countV R * (r : Int) := Int.mul_nonneg k3.1 (by omega)
    omega)
  have hcf : countV R = ((fairs R).length : Int) := by rw [countV_eq,if_pos hG.chk]
  have e4 : ((4 : Nat) : Int) = 4 := rfl
  have e5 : ((5 : Nat) : Int) = 5 := rfl
  have e6 : ((6 : Nat) : Int) = 6 := rfl
  rw [e4,e5,e6] at hmade
  have hlV : ∀ j,lenL (SLv j r) = some r := fun _ => rfl
  rw [hrl] at hex0 hrev g1 g2 g3 g4
  simp only [Int.natCast_zero] at hex0
  by_cases c0 : fairs R = []
  · -- none is fair
    have hc0 : countV R = 0 := by rw [hcf,c0]; rfl
    have hfe : freeE R = 12 := by unfold freeE; rw [hG.chk,if_neg (by simp),if_pos c0]
    rw [hc0] at g1 g2 g3 hwm
    rw [hfe] at g4
    refine call_P lp_law07_ShareNamed rfl (by simp only [LV.pures,LV.pure,hps,Bool.and_self]) (m1 := M4) ?_ rfl []
    have hz0 : (0 : Int) * (r : Int) = 0 := Int.zero_mul _
    rw [hz0] at g3 hwm
    generalize IL fa fb fz (freeV R) = vf at *
    generalize bys w = WB at *
    simp only [law07_ShareNamed,law07_ShareNamed.B,law07_ShareNamed.B.R0,law07_ShareNamed.B.R1]
    repeat (rw [exF_seq]; try simp (maxSteps := 1000000) only [beqT,beqF,exF_seq,exF_region,exF_block,exF_cond,exF_ret,exF_skip,runL,wantL,stepL,evL,evC,LEnv.at,putL,loadFine,loadL,cellsAt,Trk.calm,Trk.hit,LEnv.keep,LEnv.ofFrom,List.map_cons,List.map_nil,nbeq,nble,ofAVs,bin_mul,bin_eql,bin_neq,List.any_nil,Bool.or_false,Bool.or_true,Bool.and_true,Bool.false_and,Bool.not_true,Bool.not_false,Nat.reduceEqDiff,decide_true,decide_false,cond_true,cond_false,Nat.reduceAdd,Nat.reduceLeDiff,reduceCtorEq,List.length_nil,List.length_cons,eq_self,retL,resultsL,resAllL,resOfL,List.append_nil,List.nil_append,not_true_eq_false,ne_eq,LV.cells,allocL,List.getElem?_cons_zero,List.getElem?_cons_succ,List.drop_zero,Nat.le_refl,hbl,htk,hmade,hlV,hex0,hrev,g1,g2,g3,g4,hz0,hwm,works_c])
  · have hfe : freeE R = 0 := by unfold freeE; rw [hG.chk,if_neg (by simp),if_neg c0]
    have hc0 : ¬ countV R = 0 := by
      rw [hcf]
      have : (fairs R).length ≠ 0 := fun e => c0 (List.length_eq_zero_iff.1 e)
      omega
    obtain ⟨x,tl,hx⟩ := List.exists_cons_of_ne_nil c0
    have hfv : freeV R = x := by unfold freeV; rw [hG.chk,if_pos rfl,hx]; rfl
    have hxm : x ∈ fairs R := by rw [hx]; simp
    have hx1 := List.mem_filter.1 hxm
    have hx2 := allD_mem _ _ x hx1.1
    rw [(hG.get hG.pos).1] at hx2
    rw [hfe] at g4
    rw [hfv] at g4 hz hnl
    have D := hG.lok hx2.1 (fun y hy => by have := hx2.2 y hy; omega)
    have hpure : LV.pure (IL fa fb fz x) = true := by simp only [LV.pure]
    obtain ⟨M5,g5,f5⟩ := call_2p lp_law07_proper rfl (sees rfl c1) hpure (proper_c false false fa fb 1 fz D (fun y hy => by rw [List.length_map]; exact hx2.2 y hy) [])
    have c3 : ∃ w,M5[jw]? = some ⟨(widR R).map RL,w⟩ := by obtain ⟨w,h⟩ := c3; exact f5.2 _ _ _ h
    obtain ⟨M6,hex1⟩ := named_L1 hG hn5 jw fa fb fz hx2.1 hx2.2 hx1.2 hz hnl R.length 0 M5 (by omega) c3
    rw [hrl] at g5 hex1
    simp only [Int.natCast_zero] at hex1
    refine call_P lp_law07_ShareNamed rfl (by simp only [LV.pures,LV.pure,hps,Bool.and_self]) (m1 := M6) ?_ rfl []
    generalize countV R = a at *
    generalize IL fa fb fz x = vf at *
    generalize bys w = WB at *
    simp only [law07_ShareNamed,law07_ShareNamed.B,law07_ShareNamed.B.R0,law07_ShareNamed.B.R1]
    repeat (rw [exF_seq]; try simp (maxSteps := 1000000) only [beqF,exF_seq,exF_region,exF_block,exF_cond,exF_ret,exF_skip,runL,wantL,stepL,evL,evC,LEnv.at,putL,loadFine,loadL,cellsAt,Trk.calm,Trk.hit,LEnv.keep,LEnv.ofFrom,List.map_cons,List.map_nil,nbeq,nble,ofAVs,bin_mul,bin_eql,bin_neq,List.any_nil,Bool.or_false,Bool.or_true,Bool.and_true,Bool.false_and,Bool.not_true,Bool.not_false,Nat.reduceEqDiff,decide_true,decide_false,cond_true,cond_false,Nat.reduceAdd,Nat.reduceLeDiff,reduceCtorEq,List.length_nil,List.length_cons,eq_self,retL,resultsL,resAllL,resOfL,List.append_nil,List.nil_append,not_true_eq_false,ne_eq,unL,LV.cells,allocL,List.getElem?_cons_zero,List.getElem?_cons_succ,List.drop_zero,Nat.le_refl,hbl,htk,hmade,hlV,hex0,hrev,g1,g2,g3,g4,hwm,hc0,g5,hex1,works_c])
end Go.Am.Share
set_option linter.unusedVariables false
namespace Go.Am
variable [Glo]
open Go.RowKit
def Placed (ρ : PM) (b : Nat) (ps : List Place) : Prop := ∀ (i : Nat) (p : Place),ps[i]? = some p → ρ (b + i) = some p
def Shows (s : Sit) (b : Nat) (bl : List (List AV)) : Prop := ∀ (i : Nat) (cs : List AV),bl[i]? = some cs → s.A (b + i) ∧ s.am.look (b + i) = some ⟨cs,false⟩
def ArgOk (w : World) (v : Value) (lv : LV) : Prop :=
  ∃ (bl : Nat → List (List AV)) (ps : List Place) (av : Nat → AV),(∀ b,(bl b).length = ps.length) ∧
    (∀ (ρ : PM) (b : Nat),Placed ρ b ps → VR ρ (av b) v ∧ ∀ (i : Nat) (cs : List AV) (p : Place),(bl b)[i]? = some cs → ps[i]? = some p → p.map = false ∧ CellsAt ρ w cs p) ∧
    (∀ (s : Sit) (b : Nat),Shows s b (bl b) → LR s lv (av b))
inductive ArgsOk (w : World) : List Value → List LV → Prop
  | nil : ArgsOk w [] []
  | cons {v : Value} {lv : LV} {vs : List Value} {lvs : List LV} (h : ArgOk w v lv) (hr : ArgsOk w vs lvs) : ArgsOk w (v :: vs) (lv :: lvs)
omit [Glo] in
theorem argOk_int (w : World) (k : IntKind) (n : Int) : ArgOk w (.int k n) (.int k n) := ⟨fun _ => [],[],fun _ => .int k n,fun _ => rfl,fun ρ b _ => ⟨.int k n,fun i cs p h => by simp at h⟩,fun s b _ => .int k n⟩
omit [Glo] in
theorem append_get {α : Type} (a b : List α) (i : Nat) (x : α) (h : (a ++ b)[i]? = some x) : (i < a.length ∧ a[i]? = some x) ∨ (a.length ≤ i ∧ b[i - a.length]? = some x) := by
  by_cases hi : i < a.length
  · rw [List.getElem?_append_left hi] at h; exact .inl ⟨hi,h⟩
  · rw [List.getElem?_append_right (by omega)] at h; exact .inr ⟨by omega,h⟩
omit [Glo] in
theorem args_all {w : World} : ∀ {vs : List Value} {lvs : List LV},ArgsOk w vs lvs → ∃ (bl : Nat → List (List AV)) (ps : List Place) (avs : Nat → List AV),(∀ b,(bl b).length = ps.length) ∧
    (∀ (ρ : PM) (b : Nat),Placed ρ b ps → VRs ρ (avs b) vs ∧ ∀ (i : Nat) (cs : List AV) (p : Place),(bl b)[i]? = some cs → ps[i]? = some p → p.map = false ∧ CellsAt ρ w cs p) ∧
    (∀ (s : Sit) (b : Nat),Shows s b (bl b) → LRs s lvs (avs b))
  | _,_,.nil => ⟨fun _ => [],[],fun _ => [],fun _ => rfl,fun ρ b _ => ⟨.nil,fun i cs p h => by simp at h⟩,fun s b _ => .nil⟩
  | _,_,.cons h hr => by
    obtain ⟨bl1,ps1,av1,a1,a2,a3⟩ := h
    obtain ⟨bl2,ps2,av2,b1,b2,b3⟩ := args_all hr
    refine ⟨fun b => bl1 b ++ bl2 (b + ps1.length),ps1 ++ ps2,fun b => av1 b :: av2 (b + ps1.length),fun b => by simp [a1,b1],fun ρ b hp => ?_,fun s b hs => ?_⟩
    · have hp1 : Placed ρ b ps1 := fun i p h => hp i p (by rw [List.getElem?_append_left (List.getElem?_eq_some_iff.1 h).1]; exact h)
      have hp2 : Placed ρ (b + ps1.length) ps2 := fun i p h => by
        have := hp (ps1.length + i) p (by rw [List.getElem?_append_right (by omega)]; simpa using h)
        rw [Nat.add_assoc]; exact this
      obtain ⟨c1,c2⟩ := a2 ρ b hp1
      obtain ⟨d1,d2⟩ := b2 ρ _ hp2
      refine ⟨.cons c1 d1,fun i cs p hcs hpp => ?_⟩
      rcases append_get _ _ _ _ hcs with ⟨e1,e2⟩ | ⟨e1,e2⟩
      · rw [a1] at e1
        rw [List.getElem?_append_left e1] at hpp
        exact c2 i cs p e2 hpp
      · rw [a1] at e1 e2
        rw [List.getElem?_append_right e1] at hpp
        exact d2 _ cs p e2 hpp
    · refine .cons (a3 s b fun i cs h => hs i cs (by rw [List.getElem?_append_left (List.getElem?_eq_some_iff.1 h).1]; exact h)) (b3 s _ fun i cs h => ?_)
      have := hs (ps1.length + i) cs (by rw [List.getElem?_append_right (by rw [a1]; omega)]; rw [a1]; simpa using h)
      rw [Nat.add_assoc]; exact this
def gPlaces (n : Nat) : List Place := (List.range n).map fun g => ⟨g,0,0,false⟩
omit [Glo] in
theorem gPlaces_get {n g : Nat} {p : Place} (h : (gPlaces n)[g]? = some p) : p = ⟨g,0,0,false⟩ := by
  unfold gPlaces at h
  rw [List.getElem?_map] at h
  obtain ⟨x,hx,rfl⟩ := Option.map_eq_some_iff.1 h
  have hg := (List.getElem?_eq_some_iff.1 hx).1
  simp at hg
  rw [List.getElem?_range hg] at hx
  cases hx; rfl
theorem law_glob {P : Program} {C : Prog} {LP : LProg} (hC : ProgOk C P) (hmix : P.follows .mixedOrders = true) (hL : ProgL LP C) {f : Nat} {lvs : List LV} {md : Mode} {m' : LMem} (h : clF LP f lvs [] = some (md,.bool true,m'))
    {w : World} {cargs : Array Value} (ha : ArgsOk w cargs.toList lvs) (gb : List (List AV)) (hgb : gb.length = P.globals.size) (hT : ∀ g l,Glo.tab g = some l → gb[g]? = some l) (hcell : ∀ (ρ : PM) (g : Nat) (cs : List AV),gb[g]? = some cs → CellsAt ρ w cs ⟨g,0,0,false⟩) :
    Calls P f cargs w fun e w' => e = .returned (.bool true) ∧ Below w.heap.size w w' := by
  obtain ⟨bl,ps,avs,h1,h2,h3⟩ := args_all ha
  obtain ⟨n,hn⟩ := clF_some.1 h
  generalize hN : gb.length = N at hgb
  generalize hall : gb ++ bl N = all
  have hget : ∀ (i : Nat) (cs : List AV),(bl N)[i]? = some cs → all[N + i]? = some cs := fun i cs hi => by
    rw [← hall,List.getElem?_append_right (by omega),hN,Nat.add_sub_cancel_left]; exact hi
  have hs : Shows ⟨[],memOf all,fun _ => 0,fun b => b < all.length⟩ N (bl N) := fun i cs hi =>
    ⟨(List.getElem?_eq_some_iff.1 (hget i cs hi)).1,by show (memOf all).look (N + i) = _; rw [memOf_look,hget i cs hi]; rfl⟩
  have hrel : Rel2 ⟨[],memOf all,fun _ => 0,fun b => b < all.length⟩ := by
    refine ⟨fun i b hb => by simp at hb,fun i j b b' hb => by simp at hb,fun b hb => ?_,fun b ab hb => ?_,fun g l hg => ?_⟩
    · have hb : b < all.length := hb
      exact ⟨⟨all[b],false⟩,by show (memOf all).look b = _; rw [memOf_look,List.getElem?_eq_getElem hb]; rfl⟩
    · have hb : (memOf all).look b = some ab := hb
      show b < (memOf all).next
      rw [memOf_next]
      rw [memOf_look] at hb
      obtain ⟨x,hx,_⟩ := Option.map_eq_some_iff.1 hb
      exact (List.getElem?_eq_some_iff.1 hx).1
    · have e : all[g]? = some l := by
        have := hT g l hg
        rw [← hall,List.getElem?_append_left (List.getElem?_eq_some_iff.1 this).1]; exact this
      exact ⟨(List.getElem?_eq_some_iff.1 e).1,by show (memOf all).look g = _; rw [memOf_look,e]; rfl⟩
  obtain ⟨av,am',h4,t,_,_,_,_,h5,_⟩ := callL_sound hL n f lvs [] md (.bool true) m' hn _ (avs N) rfl hrel (h3 _ N hs)
  cases h5
  generalize hpl : gPlaces N ++ ps = pl
  have hgl : (gPlaces N).length = N := by simp [gPlaces]
  have hplaced : Placed (placesOf pl) N ps := fun i p hp => by
    show pl[N + i]? = some p
    rw [← hpl,List.getElem?_append_right (by omega),hgl,Nat.add_sub_cancel_left]; exact hp
  obtain ⟨h6,h7⟩ := h2 (placesOf pl) N hplaced
  refine law_calls hC hmix (l := all) (ps := pl) h4 (by rw [← hall,← hpl,List.length_append,List.length_append,h1,hgl,hN]) (fun i cs p hcs hp => ?_) h6 fun g hg => ?_
  · rw [← hall] at hcs
    rw [← hpl] at hp
    rcases append_get _ _ _ _ hcs with ⟨e1,e2⟩ | ⟨e1,e2⟩
    · rw [List.getElem?_append_left (by omega)] at hp
      rw [gPlaces_get hp]
      exact ⟨rfl,hcell _ i cs e2⟩
    · rw [List.getElem?_append_right (by omega),hgl] at hp
      rw [hN] at e2
      exact h7 _ cs p e2 hp
  · have hg : g < N := by omega
    refine ⟨⟨g,0,0,false⟩,?_,rfl,rfl,rfl⟩
    show pl[g]? = _
    rw [← hpl,List.getElem?_append_left (by omega)]
    simp [gPlaces,hg]
theorem law_list {P : Program} {C : Prog} {LP : LProg} (hC : ProgOk C P) (hmix : P.follows .mixedOrders = true) (hL : ProgL LP C) {f : Nat} {lvs : List LV} {md : Mode} {m' : LMem} (h : clF LP f lvs [] = some (md,.bool true,m')) (hG : P.globals.size = 0) (hT : ∀ g,Glo.tab g = none)
    {w : World} {cargs : Array Value} (ha : ArgsOk w cargs.toList lvs) : Calls P f cargs w fun e w' => e = .returned (.bool true) ∧ Below w.heap.size w w' :=
  law_glob hC hmix hL h ha [] (by simp [hG]) (fun g l hg => by rw [hT g] at hg; cases hg) (fun ρ g cs hg => by simp at hg)
end Go.Am
set_option linter.unusedVariables false
namespace Go.Am
variable [Glo]
open Go.ChangeShapes Go.RowKit Go.Deep
end Go.Am
set_option linter.unusedVariables false
namespace Go.Am
variable [Glo]
open Go.RowKit
omit [Glo] in
theorem trodAll_below {H : Type} {enc : TypeId × Value → H} {P : Program} {W W' : World} (hl : laidOutB P = true) (hb : Below W.heap.size W W') : ∀ {ts : List TypeId} {vs : List Value} {ds : List (DataW H)} {ps : List MemPlace},(ts.all fun t => P.readableRec t && decide (t < P.types.size)) = true →
    DataW.TrodAll enc P W 0 (fun _ => true) true ts vs ds ps → (∀ x ∈ ps,x.block < W.heap.size) → DataW.TrodAll enc P W' 0 (fun b => decide (b < W.heap.size)) true ts vs ds ps
  | [],[],[],_,_,h,_ => h
  | t :: ts,v :: vs,d :: ds,ps,hr,⟨p,q,h1,h2,e⟩,hlt => by
    simp only [List.all_cons,Bool.and_eq_true,decide_eq_true_eq] at hr
    subst e
    exact ⟨p,q,Below.trod hl hr.1.1 hr.1.2 h1 hb (fun x hx => hlt x (List.mem_append_left _ hx)),trodAll_below hl hb hr.2 h2 (fun x hx => hlt x (List.mem_append_right _ hx)),rfl⟩
end Go.Am
set_option linter.unusedVariables false
namespace Go.Am
variable [Glo]
open Go.RowKit
def sumPc : Nat → List (Nat × Nat) → Option Nat
  | off,[] => some off
  | off,(o,k) :: r => cond (Nat.beq o off) (sumPc (off + k) r) none
def pcsF (P : Program) (g : TypeId → Option Nat) : List Field → Option (List (Nat × Nat))
  | [] => some []
  | f :: r => match g f.type with
    | some k => match pcsF P g r with
      | some l => cond (Nat.beq (P.cellsOf f.type) k) (some ((f.offset,k) :: l)) none
      | none => none
    | none => none
def u8T (P : Program) : Nat → TypeId → Option Nat
  | 0,_ => none
  | n + 1,t => match P.underlying t with
    | some (.int .u8) => some 1
    | some (.array m e) => match u8T P n e with
      | some k => cond (Nat.beq (P.cellsOf e) k && Nat.beq (P.cellsOf t) (m * k)) (some (m * k)) none
      | none => none
    | some (.struct fs) => match pcsF P (u8T P n) fs.toList with
      | some l => match sumPc 0 l with
        | some k => cond (Nat.beq (P.cellsOf t) k) (some k) none
        | none => none
      | none => none
    | _ => none
def U8s (cs : List Value) : Prop := ∀ (i : Nat) (v : Value),cs[i]? = some v → ∃ n : Int,v = .int .u8 n ∧ (Lit.int .u8 n).wf = true
omit [Glo] in
theorem sumPc_in : ∀ (l : List (Nat × Nat)) (off tot : Nat),sumPc off l = some tot → ∀ i,off ≤ i → i < tot → ∃ p ∈ l,p.1 ≤ i ∧ i < p.1 + p.2
  | [],off,tot,h,i,h1,h2 => by simp only [sumPc,Option.some.injEq] at h; omega
  | (o, k) :: r,off,tot,h,i,h1,h2 => by
    simp only [sumPc] at h
    cases c : Nat.beq o off <;> rw [c] at h
    · cases h
    · have e : o = off := by simpa using c
      subst e
      by_cases hi : i < o + k
      · exact ⟨(o,k),by simp,h1,hi⟩
      · obtain ⟨p,hp,h3⟩ := sumPc_in r _ _ h i (by omega) h2
        exact ⟨p,by simp [hp],h3⟩
omit [Glo] in
theorem pcsF_in {P : Program} {g : TypeId → Option Nat} : ∀ (fs : List Field) (l : List (Nat × Nat)),pcsF P g fs = some l → ∀ p ∈ l,∃ (i : Nat) (f : Field),fs[i]? = some f ∧ f.offset = p.1 ∧ g f.type = some p.2 ∧ P.cellsOf f.type = p.2
  | [],l,h,p,hp => by simp only [pcsF,Option.some.injEq] at h; subst h; cases hp
  | f :: r, l,h,p,hp => by
    simp only [pcsF] at h
    split at h
    · rename_i k hk
      split at h
      · rename_i l' hl'
        cases c : Nat.beq (P.cellsOf f.type) k <;> rw [c] at h
        · cases h
        · simp only [cond_true,Option.some.injEq] at h
          subst h
          rcases List.mem_cons.1 hp with rfl | hp
          · exact ⟨0,f,rfl,rfl,hk,by simpa using c⟩
          · obtain ⟨i,f',h1,h2⟩ := pcsF_in r l' hl' p hp
            exact ⟨i + 1,f',by simpa using h1,h2⟩
      · cases h
    · cases h
section
variable {H : Type} {enc : TypeId × Value → H} {P : Program} {w : World} {base : Nat} {sp : Nat → Bool} {held : Bool}
omit [Glo] in
theorem u8T_ok : ∀ (n : Nat) (t : TypeId) (fuel : Nat) (cs : List Value) (x : DataW H × List MemPlace) (k : Nat),u8T P n t = some k → DataW.trod enc P w base sp held fuel t cs = some x → U8s cs ∧ cs.length = k
  | 0,_,_,_,_,_,h,_ => by cases h
  | n + 1,t,fuel,cs,x,k,h,hx => by
    simp only [u8T] at h
    split at h
    · rename_i ht
      cases h
      obtain ⟨a,rfl,_,hw⟩ := DataW.trod_int ht hx
      refine ⟨fun i v hv => ?_,rfl⟩
      match i with
      | 0 => simp at hv; subst hv; exact ⟨a,rfl,hw⟩
      | i + 1 => simp at hv
    · rename_i m e ht
      split at h
      · rename_i k' hk'
        cases c : (Nat.beq (P.cellsOf e) k' && Nat.beq (P.cellsOf t) (m * k')) <;> rw [c] at h
        · cases h
        · simp only [cond_true,Option.some.injEq] at h
          subst h
          simp only [Bool.and_eq_true] at c
          have c1 : P.cellsOf e = k' := by simpa using c.1
          have c2 : P.cellsOf t = m * k' := by simpa using c.2
          obtain ⟨xs,m',_,_,hl,hxl,hf⟩ := DataW.trod_array ht hx
          rw [c2] at hl
          refine ⟨fun i v hv => ?_,hl⟩
          have hi : i < m * k' := by rw [← hl]; exact (List.getElem?_eq_some_iff.1 hv).1
          have hk0 : 0 < k' := by
            rcases Nat.eq_zero_or_pos k' with e0 | e0
            · rw [e0] at hi; simp at hi
            · exact e0
          have h1 : i / k' < m := (Nat.div_lt_iff_lt_mul hk0).2 hi
          have h2 : i % k' < k' := Nat.mod_lt _ hk0
          have h3 : (i / k') * k' + i % k' = i := by rw [Nat.mul_comm]; exact Nat.div_add_mod i k'
          have h4 := hf (i / k') h1
          rw [c1] at h4
          obtain ⟨y,hy⟩ : ∃ y,xs[i / k']? = some y := ⟨xs[i / k']'(by omega),List.getElem?_eq_getElem (by omega)⟩
          rw [hy] at h4
          obtain ⟨h5,_⟩ := u8T_ok n e m' _ y k' hk' h4
          refine h5 (i % k') v ?_
          rw [List.getElem?_take,if_pos h2,List.getElem?_drop,h3]
          exact hv
      · cases h
    · rename_i fs ht
      split at h
      · rename_i l hl'
        split at h
        · rename_i k' hk'
          cases c : Nat.beq (P.cellsOf t) k' <;> rw [c] at h
          · cases h
          · simp only [cond_true,Option.some.injEq] at h
            subst h
            have c2 : P.cellsOf t = k' := by simpa using c
            obtain ⟨xs,m',_,_,hl,hxl,hf⟩ := DataW.trod_struct ht hx
            rw [c2] at hl
            refine ⟨fun i v hv => ?_,hl⟩
            have hi : i < k' := by rw [← hl]; exact (List.getElem?_eq_some_iff.1 hv).1
            obtain ⟨p,hp,p1,p2⟩ := sumPc_in l 0 k' hk' i (Nat.zero_le _) hi
            obtain ⟨j,f,f1,f2,f3,f4⟩ := pcsF_in _ _ hl' p hp
            have f1' : fs[j]? = some f := by simpa using f1
            have hj : j < fs.size := (Array.getElem?_eq_some_iff.1 f1').1
            have h4 := hf j f f1'
            rw [f4,f2] at h4
            obtain ⟨y,hy⟩ : ∃ y,xs[j]? = some y := ⟨xs[j]'(by omega),List.getElem?_eq_getElem (by omega)⟩
            rw [hy] at h4
            obtain ⟨h5,_⟩ := u8T_ok n f.type m' _ y p.2 f3 h4
            refine h5 (i - p.1) v ?_
            rw [List.getElem?_take,if_pos (by omega),List.getElem?_drop,show p.1 + (i - p.1) = i by omega]
            exact hv
        · cases h
      · cases h
    · cases h
omit [Glo] in
theorem u8s_list : ∀ {cs : List Value},U8s cs → ∃ ns : List Int,cs = ns.map (Value.int .u8) ∧ ∀ n ∈ ns,0 ≤ n ∧ n < 256
  | [],_ => ⟨[],rfl,by simp⟩
  | v :: r,h => by
    obtain ⟨n,rfl,hw⟩ := h 0 v rfl
    obtain ⟨ns,e,hb⟩ := u8s_list (cs := r) fun i v hv => h (i + 1) v (by simpa using hv)
    refine ⟨n :: ns,by rw [e]; rfl,?_⟩
    intro x hx
    rcases List.mem_cons.1 hx with rfl | hx
    · have := bounds_u8 hw; omega
    · exact hb x hx
omit [Glo] in
theorem argOk_bytes (w : World) (ns : List Int) : ArgOk w (.agg (ns.map (Value.int .u8)).toArray) (.agg (ns.map (LV.int .u8))) := by
  refine ⟨fun _ => [],[],fun _ => .agg (ns.map (AV.int .u8)),fun _ => rfl,fun ρ b _ => ⟨.agg ?_,fun i cs p h => by simp at h⟩,fun s b _ => .agg ?_⟩
  · show VRs ρ _ (ns.map (Value.int .u8)).toArray.toList
    simp only []
    induction ns with
    | nil => exact .nil
    | cons n r ih => exact .cons (.int _ _) ih
  · exact LRs.map _ fun x _ => .int _ _
omit [Glo] in
theorem argOk_struct {r : Reach} {b0 n k : Nat} {t : TypeId} {fs : Array Field} {v : Value} {d : DataW H} {ps : List MemPlace} (ht : P.underlying t = some (.struct fs)) (hk : u8T P n t = some k)
    (hval : Value.okWide P w r b0 t v) (hd : DataW.Trod enc P w base sp held t v d ps) :
    ∃ ns : List Int,ns.length = k ∧ (∀ n ∈ ns,0 ≤ n ∧ n < 256) ∧ ArgOk w v (.agg (ns.map (LV.int .u8))) := by
  obtain ⟨cs,rfl,_⟩ := Go.WideShapes.okWide_struct ht hval
  obtain ⟨fuel,hf⟩ := hd
  obtain ⟨h1,h2⟩ := u8T_ok n t fuel _ _ k hk hf
  obtain ⟨ns,e,hb⟩ := u8s_list h1
  have e' : cs = (ns.map (Value.int .u8)).toArray := by
    apply Array.ext'
    simpa [Value.cells] using e
  subst e'
  refine ⟨ns,?_,hb,argOk_bytes w ns⟩
  simpa [Value.cells] using h2
end
end Go.Am
