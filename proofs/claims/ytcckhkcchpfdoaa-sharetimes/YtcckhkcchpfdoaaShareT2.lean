import Derived.Test.YtcckhkcchpfdoaaShareT0
import Derived.Test.YtcckhkcchpfdoaaShareH1
set_option linter.unusedVariables false
set_option linter.unusedSimpArgs false
set_option maxRecDepth 10000
set_option maxHeartbeats 400000
namespace Go.Am.Share
open Go.Am.G
theorem take_set1 {α : Type} (l : List α) (i : Nat) (x : α) (h : i < l.length) : l.take i ++ [x] ++ l.drop (i + 1) = l.set i x := by
  rw [List.set_eq_take_append_cons_drop,if_pos h,List.append_assoc]; rfl
def celM (R : List (List Int)) (β : Nat → Nat) (r i : Nat) : List LV := (List.range r).map fun j => if j < i then GV (β j) (R.getD j []) else .lst true true 0 0 []
theorem celM_len (R : List (List Int)) (β : Nat → Nat) (r i : Nat) : (celM R β r i).length = r := by simp [celM]
theorem celM_at (R : List (List Int)) (β : Nat → Nat) (r i j : Nat) (h : j < r) : (celM R β r i)[j]? = some (if j < i then GV (β j) (R.getD j []) else .lst true true 0 0 []) := by simp [celM,h]
structure MoreAt (m : LMem) (q : Nat) (R : List (List Int)) (r i : Nat) (β : Nat → Nat) : Prop where
  cells : m[q]? = some ⟨celM R β r i,true⟩
  row : ∀ j,j < i → R.getD j [] ≠ [] → q < β j ∧ m[β j]? = some ⟨ints (R.getD j []),true⟩
  inj : ∀ j j',j < i → j' < i → R.getD j [] ≠ [] → R.getD j' [] ≠ [] → β j = β j' → j = j'
theorem get_lt' {m : LMem} {i : Nat} {b : LBlk} (h : m[i]? = some b) : i < m.length := (List.getElem?_eq_some_iff.1 h).1
theorem times_L0 (R : List (List Int)) (hr : R.length ≤ 4) (h6 : ∀ j,(R.getD j []).length ≤ 6) (b q : Nat) (hbq : b < q) (V2 V3 V5 : LV) (d : Nat) : ∀ (i : Nat) (m : LMem) (β : Nat → Nat),i + d = R.length → MoreAt m q R R.length i β → m[b]? = some ⟨R.map RL,true⟩ →
    ∃ m' β',exF LP law07_ShareTimes.L0 [(2,V2),(3,V3),(5,V5),(9,SLv b R.length),(10,SLz q R.length),(39,SLv b R.length),(40,.int .i64 (R.length : Int)),(41,.int .i64 (i : Int))] m =
      some (.exit 0,[(2,V2),(3,V3),(5,V5),(9,SLv b R.length),(10,SLz q R.length)],m') ∧ MoreAt m' q R R.length R.length β' ∧ ∀ k,k < q → m'[k]? = m[k]? := by
  induction d with
  | zero =>
    intro i m β hi H hb
    obtain rfl : i = R.length := by omega
    refine ⟨m,β,?_,H,fun _ _ => rfl⟩
    rw [law07_ShareTimes.L0_eq]
    simp only [law07_ShareTimes.B0,exF_seq,exF_region,exF_cond,exF_exit,runL,wantL,stepL,evL,LEnv.at,putL,loadFine,LEnv.keep,List.map_cons,List.map_nil,nbeq,bin_lss,Nat.reduceEqDiff,decide_true,decide_false,cond_true,cond_false,eq_self,Int.lt_irrefl]
  | succ d ih =>
    intro i m β hi H hb
    have hir : i < R.length := by omega
    have hii : (i : Int) < (R.length : Int) := by omega
    have hq := get_lt' H.cells
    have hws := wrap_succ (show i + 1 < 9223372036854775808 by omega)
    have hg : R.getD i [] = R[i] := by rw [List.getD_eq_getElem?_getD,List.getElem?_eq_getElem hir]; rfl
    have hrow : (R.map RL)[i]? = some (RL (R.getD i [])) := by rw [List.getElem?_map,List.getElem?_eq_getElem hir,hg]; rfl
    have hRl : (R.map RL).length = R.length := by simp
    have hoz : R.getD i [] = [] ∨ (bif decide (R.getD i [] = []) then 0 else 1) = 1 := by
      by_cases c : R.getD i [] = []
      · exact .inl c
      · exact .inr (by rw [decide_eq_false c]; rfl)
    have hcl := clone_c (decide (R.getD i [] = [])) (decide (R.getD i [] = [])) (bif decide (R.getD i [] = []) then 0 else 1) (R.getD i []) (by have := h6 i; omega) m hoz (by simp)
    have hRL : IL (decide (R.getD i [] = [])) (decide (R.getD i [] = [])) (bif decide (R.getD i [] = []) then 0 else 1) (R.getD i []) = RL (R.getD i []) := rfl
    rw [hRL] at hcl
    -- the copy,and the memory behind it
    have hcl2 : clF LP n_slices_Clone_int_int [RL (R.getD i [])] m = some (.O,GV m.length (R.getD i []),m ++ GM (R.getD i [])) := by
      rw [hcl]
      by_cases c : R.getD i [] = []
      · rw [if_pos c,c]; simp [GV,GM]
      · rw [if_neg c,GV,GM,if_neg c,if_neg c]
    obtain ⟨β',hβ'⟩ : ∃ β' : Nat → Nat,β' = fun j => if j = i then m.length else β j := ⟨_,rfl⟩
    have hcs : (celM R β R.length i).set i (GV m.length (R.getD i [])) = celM R β' R.length (i + 1) := by
      apply List.ext_getElem?
      intro j
      by_cases hj : j < R.length
      · rw [celM_at _ _ _ _ _ hj,List.getElem?_set,celM_len]
        by_cases c : i = j
        · subst c
          rw [if_pos rfl,if_pos hj,if_pos (by omega),hβ']
          simp
        · rw [if_neg c,celM_at _ _ _ _ _ hj,hβ']
          by_cases c2 : j < i
          · rw [if_pos c2,if_pos (by omega)]; simp only [if_neg (show ¬ j = i by omega)]
          · rw [if_neg c2,if_neg (by omega)]
      · rw [List.getElem?_eq_none (by rw [List.length_set,celM_len]; omega),List.getElem?_eq_none (by rw [celM_len]; omega)]
    have hst := take_set1 (celM R β R.length i) i (GV m.length (R.getD i [])) (by rw [celM_len]; exact hir)
    rw [hcs] at hst
    obtain ⟨m2,hm2⟩ : ∃ m2,m2 = (m ++ GM (R.getD i [])).set q ⟨celM R β' R.length (i + 1),true⟩ := ⟨_,rfl⟩
    have up : ∀ k,k < m.length → (m ++ GM (R.getD i []))[k]? = m[k]? := fun k hk => List.getElem?_append_left hk
    have hmq : (m ++ GM (R.getD i []))[q]? = some ⟨celM R β R.length i,true⟩ := by rw [up q hq]; exact H.cells
    have hlq : q < (m ++ GM (R.getD i [])).length := get_lt' hmq
    have H2 : MoreAt m2 q R R.length (i + 1) β' := by
      refine ⟨by rw [hm2,List.getElem?_set_self hlq],fun j hj hne => ?_,fun j j' hj hj' h1 h2 e => ?_⟩
      · by_cases c : j = i
        · subst c
          have e1 : β' j = m.length := by rw [hβ']; simp
          rw [e1]
          refine ⟨hq,?_⟩
          rw [hm2,List.getElem?_set_ne (by omega),GM,if_neg hne]; simp
        · have e1 : β' j = β j := by rw [hβ']; simp only [if_neg c]
          rw [e1]
          obtain ⟨g1,g2⟩ := H.row j (by omega) hne
          refine ⟨g1,?_⟩
          rw [hm2,List.getElem?_set_ne (by omega),up _ (get_lt' g2)]; exact g2
      · have key : ∀ j,j < i → R.getD j [] ≠ [] → β j < m.length := fun j hj hne => get_lt' (H.row j hj hne).2
        rw [hβ'] at e
        by_cases c : j = i
        · by_cases c' : j' = i
          · omega
          · simp only [if_pos c,if_neg c'] at e
            have := key j' (by omega) h2; omega
        · by_cases c' : j' = i
          · simp only [if_neg c,if_pos c'] at e
            have := key j (by omega) h1; omega
          · simp only [if_neg c,if_neg c'] at e
            exact H.inj j j' (by omega) (by omega) h1 h2 e
    have hkeep : ∀ k,k < q → m2[k]? = m[k]? := fun k hk => by rw [hm2,List.getElem?_set_ne (by omega),up k (by omega)]
    obtain ⟨m',β2,hex,H',hk'⟩ := ih (i + 1) m2 β' (by omega) H2 (by rw [hkeep b hbq]; exact hb)
    refine ⟨m',β2,?_,H',fun k hk => by rw [hk' k hk,hkeep k hk]⟩
    rw [← hex,law07_ShareTimes.L0_eq]
    have hca : (GV m.length (R.getD i [])).cells = some [GV m.length (R.getD i [])] := by unfold GV; split <;> rfl
    have hsc : LV.scalar (GV m.length (R.getD i [])) = true := by unfold GV; split <;> rfl
    have hcl' := celM_len R β R.length i
    rw [hm2]
    have l0 : lenL (SLv b R.length) = some R.length := rfl
    generalize GV m.length (R.getD i []) = gv at *
    generalize RL (R.getD i []) = rl at *
    generalize celM R β R.length i = C1 at *
    generalize celM R β' R.length (i + 1) = C2 at *
    generalize R.map RL = RR at *
    generalize m ++ GM (R.getD i []) = mm at *
    simp only [law07_ShareTimes.B0,exF_seq,exF_region,exF_block,exF_cond,exF_skip,runL,wantL,stepL,evL,evC,LEnv.at,putL,loadFine,loadL,cellsAt,Trk.putNew,Trk.up,Trk.touch,Trk.gives,Trk.calm,Trk.hit,opdsOf,Trk.fresh,LEnv.keep,List.map_cons,List.map_nil,nbeq,nble,nblt,ofAVs,bin_add,bin_lss,natL_nat,List.any_cons,List.any_nil,Bool.or_false,Bool.false_or,Bool.true_or,Bool.and_true,Nat.reduceEqDiff,decide_true,decide_false,cond_true,cond_false,List.filter_nil,Nat.reduceAdd,Nat.reduceLeDiff,List.length_nil,List.length_cons,Nat.mul_one,eq_self,List.append_nil,List.nil_append,storeL,spliceL,List.all_cons,List.all_nil,hii,hir,Nat.zero_add,hb,hRl,hrow,hcl2,hmq,hcl',hca,hsc,hst,Nat.succ_le_of_lt hir,hws]
def halfR (t : Int) (r : List Int) (k : Nat) : List Int := (r.take k).map (· * t) ++ r.drop k
theorem halfR_len (t : Int) (r : List Int) (k : Nat) (h : k ≤ r.length) : (halfR t r k).length = r.length := by simp [halfR]; omega
theorem halfR_at (t : Int) (r : List Int) (k : Nat) (h : k < r.length) : (halfR t r k)[k]? = some r[k] := by
  rw [halfR,List.getElem?_append_right (by simp; omega),List.length_map,List.length_take,Nat.min_eq_left (by omega),Nat.sub_self,List.getElem?_drop]
  simp [h]
theorem halfR_set (t : Int) (r : List Int) (k : Nat) (h : k < r.length) : (halfR t r k).set k (r[k] * t) = halfR t r (k + 1) := by
  have e : ((r.take k).map (· * t)).length = k := by simp; omega
  unfold halfR
  rw [List.set_append_right _ _ (by omega),e,Nat.sub_self,List.drop_eq_getElem_cons h,List.set_cons_zero,List.take_add_one,List.getElem?_eq_getElem h,List.map_append,List.append_assoc]
  rfl
theorem halfR_end (t : Int) (r : List Int) : halfR t r r.length = mulR t r := by simp [halfR,mulR]
theorem times_L1 (row : List Int) (h6 : row.length ≤ 6) (h20 : ∀ x ∈ row,0 ≤ x ∧ x ≤ 6) (s : Nat) (hs : s < 256) (C : List LV) (r p q bp : Nat) (hp : p < r) (hC : C.length = r) (hCp : C[p]? = some (GV bp row)) (hqb : row ≠ [] → q ≠ bp) (V5 V9 : LV) (d : Nat) : ∀ (k : Nat) (m : LMem),k + d = row.length → m[q]? = some ⟨C,true⟩ → (row ≠ [] → m[bp]? = some ⟨ints (halfR ((1 + s % 3 : Nat) : Int) row k),true⟩) →
    exF LP law07_ShareTimes.L1 [(3,.int .u8 (s : Int)),(5,V5),(9,V9),(10,SLz q r),(13,.int .i64 (p : Int)),(61,.int .i64 (row.length : Int)),(62,.int .i64 (k : Int))] m =
      some (.exit 2,[(5,V5),(9,V9),(10,SLz q r),(13,.int .i64 (p : Int))],if row = [] then m else m.set bp ⟨ints (mulR ((1 + s % 3 : Nat) : Int) row),true⟩) := by
  induction d with
  | zero =>
    intro k m hk hq hb
    obtain rfl : k = row.length := by omega
    have e : (if row = [] then m else m.set bp ⟨ints (mulR ((1 + s % 3 : Nat) : Int) row),true⟩) = m := by
      by_cases c : row = []
      · rw [if_pos c]
      · rw [if_neg c]
        have := hb c
        rw [halfR_end] at this
        exact set_same' this
    rw [law07_ShareTimes.L1_eq,e]
    simp only [law07_ShareTimes.B1,exF_seq,exF_region,exF_cond,exF_exit,runL,wantL,stepL,evL,LEnv.at,putL,loadFine,LEnv.keep,List.map_cons,List.map_nil,nbeq,bin_lss,Nat.reduceEqDiff,decide_true,decide_false,cond_true,cond_false,eq_self,Int.lt_irrefl]
  | succ d ih =>
    intro k m hk hq hb
    have hkr : k < row.length := by omega
    have hne : row ≠ [] := fun e => by rw [e] at hkr; simp at hkr
    have hb := hb hne
    have hqb := hqb hne
    have hki : (k : Int) < (row.length : Int) := by omega
    have hbl := get_lt' hb
    have hws := wrap_succ (show k + 1 < 9223372036854775808 by omega)
    have hat : (ints (halfR ((1 + s % 3 : Nat) : Int) row k))[k]? = some (.int .i64 row[k]) := by rw [List.getElem?_map,halfR_at _ _ _ hkr]; rfl
    have hlen : (ints (halfR ((1 + s % 3 : Nat) : Int) row k)).length = row.length := by rw [List.length_map,halfR_len _ _ _ (by omega)]
    have hset : (ints (halfR ((1 + s % 3 : Nat) : Int) row k)).take k ++ [LV.int .i64 (row[k] * ((1 + s % 3 : Nat) : Int))] ++ (ints (halfR ((1 + s % 3 : Nat) : Int) row k)).drop (k + 1) = ints (halfR ((1 + s % 3 : Nat) : Int) row (k + 1)) := by
      rw [← halfR_set _ _ _ hkr]
      exact set_int .i64 _ k _ (by rw [halfR_len _ _ _ (by omega)]; exact hkr)
    have h6k := h20 _ (List.getElem_mem hkr)
    have hw0 : IntKind.i64.wrap (s : Int) = (s : Int) := wrap_in (by omega)
    have hrem := rem_nat s 3 (by omega)
    have hw1 : IntKind.i64.wrap (1 + ((s % 3 : Nat) : Int)) = ((1 + s % 3 : Nat) : Int) := by rw [wrap_in (by omega)]; omega
    have hm3 : row[k] * ((1 + s % 3 : Nat) : Int) ≤ 6 * 3 := Int.mul_le_mul h6k.2 (by omega) (by omega) (by omega)
    have hm0 : 0 ≤ row[k] * ((1 + s % 3 : Nat) : Int) := Int.mul_nonneg h6k.1 (by omega)
    have hw2 : IntKind.i64.wrap (row[k] * ((1 + s % 3 : Nat) : Int)) = row[k] * ((1 + s % 3 : Nat) : Int) := wrap_in (by omega)
    have := ih (k + 1) (m.set bp ⟨ints (halfR ((1 + s % 3 : Nat) : Int) row (k + 1)),true⟩) (by omega) (by rw [List.getElem?_set_ne (fun e => hqb e.symm)]; exact hq) (fun _ => by rw [List.getElem?_set_self hbl])
    rw [if_neg hne,List.set_set] at this
    rw [if_neg hne,← this,law07_ShareTimes.L1_eq]
    have hgv : GV bp row = .sl bp 0 row.length row.length 1 1 row.length := by rw [GV,if_neg hne]
    rw [hgv] at hCp
    have e3 : ((3 : Nat) : Int) = 3 := rfl
    rw [e3] at hrem
    have k1 : k + 1 ≤ row.length := by omega
    have p1 : p + 1 ≤ r := by omega
    generalize (1 + s % 3 : Nat) = t at *
    generalize (s % 3 : Nat) = s3 at *
    generalize row[k] = x at *
    generalize ints (halfR (t : Int) row k) = H0 at *
    generalize ints (halfR (t : Int) row (k + 1)) = H1 at *
    simp only [law07_ShareTimes.B1,law07_ShareTimes.B1.R0,exF_seq,exF_region,exF_block,exF_cond,exF_skip,runL,wantL,stepL,evL,evC,LEnv.at,putL,loadFine,loadL,cellsAt,Trk.putNew,Trk.up,Trk.touch,Trk.gives,Trk.calm,Trk.hit,opdsOf,Trk.fresh,LEnv.keep,List.map_cons,List.map_nil,nbeq,nble,nblt,bin_add,bin_mul,bin_lss,natL_nat,List.any_cons,List.any_nil,Bool.or_false,Bool.false_or,Bool.true_or,Bool.and_true,Nat.reduceEqDiff,decide_true,decide_false,cond_true,cond_false,List.filter_nil,Nat.reduceAdd,Nat.reduceLeDiff,List.length_nil,List.length_cons,Nat.mul_one,eq_self,LV.cells,storeL,spliceL,LV.scalar,List.all_cons,List.all_nil,hki,hkr,hp,Nat.zero_add,hq,hC,hCp,hb,hlen,hat,k1,p1,hw0,hrem,hw1,hw2,hset,hws]
theorem times_L2 (cs : List Nat) (hc6 : cs.length = 6) (hcb : ∀ x ∈ cs,x < 256) (P : LMem) (h1 : P[1]? = some ⟨bys cs,true⟩) (b r : Nat) (hr : 0 < r ∧ r ≤ 4) (V10 V13 V16 : LV) (n : Nat) (hn : n ≤ 6) (d : Nat) : ∀ k,k + d = n →
    exF LP law07_ShareTimes.L2 [(5,.ptr 1 0 6),(9,SLv b r),(10,V10),(13,V13),(15,GV P.length (owL cs r k)),(16,V16),(82,.int .i64 (n : Int)),(83,.int .i64 (k : Int))] (P ++ GM (owL cs r k)) =
      some (.exit 4,[(9,SLv b r),(10,V10),(13,V13),(15,GV P.length (owL cs r n)),(16,V16)],P ++ GM (owL cs r n)) := by
  induction d with
  | zero =>
    intro k hk
    obtain rfl : k = n := by omega
    rw [law07_ShareTimes.L2_eq]
    simp only [law07_ShareTimes.B2,exF_seq,exF_region,exF_cond,exF_exit,runL,wantL,stepL,evL,LEnv.at,putL,loadFine,LEnv.keep,List.map_cons,List.map_nil,nbeq,bin_lss,Nat.reduceEqDiff,decide_true,decide_false,cond_true,cond_false,eq_self,Int.lt_irrefl]
  | succ d ih =>
    intro k hk
    have ih := ih (k + 1) (by omega)
    have hk6 : k < cs.length := by omega
    have hk6' : k < 6 := by omega
    have hbl : (bys cs).length = 6 := by simp [hc6]
    have hat := bys_at hk6
    have hx := getD_lt hcb k
    have hwr : IntKind.i64.wrap ((cs.getD k 0 : Nat) : Int) = ((cs.getD k 0 : Nat) : Int) := wrap_in (by omega)
    have hrm := rem_nat (cs.getD k 0) r (by omega)
    have ha := append_grow P (owL cs r k) ((cs.getD k 0 % r : Nat) : Int) true (by rw [owL_len]; omega)
    rw [← owL_succ] at ha
    have hvx : ∀ (x : Int) m,views m [.int .i64 x] = some ([.int .i64 x],[]) := fun x m => views_pures m _ (by simp [LV.pures,LV.pure])
    have hws := wrap_succ (show k + 1 < 9223372036854775808 by omega)
    have hl1 := (List.getElem?_eq_some_iff.1 h1).1
    have hm1 : (P ++ GM (owL cs r k))[1]? = some ⟨bys cs,true⟩ := by rw [List.getElem?_append_left hl1]; exact h1
    have l0 : lenL (SLv b r) = some r := rfl
    have hci : ∀ n : Int,(LV.int .i64 n).cells = some [.int .i64 n] := fun _ => rfl
    generalize cs.getD k 0 % r = y at *
    generalize cs.getD k 0 = x at *
    generalize P ++ GM (owL cs r k) = M0 at *
    generalize P ++ GM (owL cs r (k + 1)) = M2 at *
    generalize GV P.length (owL cs r k) = g1 at *
    generalize GV P.length (owL cs r (k + 1)) = g2 at *
    generalize bys cs = wc at *
    rw [law07_ShareTimes.L2_eq]
    simp only [law07_ShareTimes.B2,law07_ShareTimes.B2.R0,exF_seq,exF_region,exF_block,exF_cond,exF_skip,runL,wantL,stepL,evL,evC,LEnv.at,putL,loadFine,loadL,cellsAt,Trk.putNew,Trk.up,Trk.touch,Trk.gives,Trk.calm,Trk.hit,opdsOf,Trk.fresh,LEnv.keep,List.map_cons,List.map_nil,nbeq,nble,nblt,ofAV,ofAVs,lenL,bin_add,bin_lss,natL_nat,List.any_cons,List.any_nil,Bool.or_false,Bool.false_or,Bool.true_or,Bool.and_true,Nat.reduceEqDiff,decide_true,decide_false,cond_true,cond_false,List.filter_nil,Nat.reduceAdd,Nat.reduceLeDiff,reduceCtorEq,List.length_nil,List.length_cons,Nat.mul_one,eq_self,List.append_nil,List.nil_append,Nat.reduceDiv,spliceL,List.take_zero,List.take_succ_cons,List.drop_succ_cons,List.drop_nil,List.take_nil,Nat.le_refl,fillL,show ((k : Int) < (n : Int)) by omega,hk6',Nat.zero_add,hm1,hbl,hat,hwr,hrm,hci,hvx,freeze_nil,ha,hws,ih]
def orL (p r k : Nat) : List Int := (List.range k).map fun i => (((p + i) % r : Nat) : Int)
theorem orL_len (p r k : Nat) : (orL p r k).length = k := by simp [orL]
theorem orL_succ (p r k : Nat) : orL p r (k + 1) = orL p r k ++ [(((p + k) % r : Nat) : Int)] := by simp [orL,List.range_succ]
theorem times_L3 (P : LMem) (b r p : Nat) (hr : 0 < r ∧ r ≤ 4) (hp : p < r) (V10 V15 : LV) (d : Nat) : ∀ k,k + d = r →
    exF LP law07_ShareTimes.L3 [(9,SLv b r),(10,V10),(13,.int .i64 (p : Int)),(15,V15),(16,GV P.length (orL p r k)),(98,.int .i64 (r : Int)),(99,.int .i64 (k : Int))] (P ++ GM (orL p r k)) =
      some (.exit 6,[(9,SLv b r),(10,V10),(15,V15),(16,GV P.length (orL p r r))],P ++ GM (orL p r r)) := by
  induction d with
  | zero =>
    intro k hk
    obtain rfl : k = r := by omega
    rw [law07_ShareTimes.L3_eq]
    simp only [law07_ShareTimes.B3,exF_seq,exF_region,exF_cond,exF_exit,runL,wantL,stepL,evL,LEnv.at,putL,loadFine,LEnv.keep,List.map_cons,List.map_nil,nbeq,bin_lss,Nat.reduceEqDiff,decide_true,decide_false,cond_true,cond_false,eq_self,Int.lt_irrefl]
  | succ d ih =>
    intro k hk
    have ih := ih (k + 1) (by omega)
    have hrm := rem_nat (p + k) r (by omega)
    have hw1 : IntKind.i64.wrap ((p : Int) + (k : Int)) = ((p + k : Nat) : Int) := by rw [wrap_in (by omega)]; omega
    have ha := append_grow P (orL p r k) (((p + k) % r : Nat) : Int) true (by rw [orL_len]; omega)
    rw [← orL_succ] at ha
    have hvx : ∀ (x : Int) m,views m [.int .i64 x] = some ([.int .i64 x],[]) := fun x m => views_pures m _ (by simp [LV.pures,LV.pure])
    have hws := wrap_succ (show k + 1 < 9223372036854775808 by omega)
    have l0 : lenL (SLv b r) = some r := rfl
    have hci : ∀ n : Int,(LV.int .i64 n).cells = some [.int .i64 n] := fun _ => rfl
    generalize (p + k) % r = y at *
    generalize P ++ GM (orL p r k) = M0 at *
    generalize P ++ GM (orL p r (k + 1)) = M2 at *
    generalize GV P.length (orL p r k) = g1 at *
    generalize GV P.length (orL p r (k + 1)) = g2 at *
    rw [law07_ShareTimes.L3_eq]
    simp only [law07_ShareTimes.B3,law07_ShareTimes.B3.R0,exF_seq,exF_region,exF_block,exF_cond,exF_skip,runL,wantL,stepL,evL,evC,LEnv.at,putL,loadFine,LEnv.keep,List.map_cons,List.map_nil,nbeq,nble,ofAV,ofAVs,lenL,bin_add,bin_lss,Bool.or_false,Bool.and_true,Nat.reduceEqDiff,decide_true,decide_false,cond_true,cond_false,reduceCtorEq,List.length_nil,List.length_cons,Nat.mul_one,eq_self,List.append_nil,List.nil_append,Nat.reduceDiv,spliceL,List.take_zero,List.take_succ_cons,List.drop_succ_cons,List.drop_nil,List.take_nil,Nat.le_refl,fillL,show ((k : Int) < (r : Int)) by omega,Nat.zero_add,hw1,hrm,hci,hvx,freeze_nil,ha,hws,ih]
theorem times_L4 {rs : List Row} {o : List Int} (D : LOk rs o) (V29 V30 : LV) (M : LMem) (d : Nat) : ∀ (i : Nat) (acc : Bool),i + d = rs.length →
    exF LP law07_ShareTimes.L4 [(29,V29),(30,V30),(31,.bool acc),(254,VL false true 1 (WR (vals rs) o)),(255,.int .i64 (rs.length : Int)),(256,.int .i64 (i : Int))] M =
      some (.exit 8,[(29,V29),(30,V30),(31,.bool (acc && (List.range' i d).all fun i => decide (0 < ws (i : Int) ((vals rs).getD i []) o 0)))],M) := by
  have h4 := D.le4
  induction d with
  | zero =>
    intro i acc hi
    rw [law07_ShareTimes.L4_eq]
    generalize VL false true 1 (WR (vals rs) o) = W at *
    simp only [law07_ShareTimes.B4,exF_seq,exF_region,exF_cond,exF_exit,runL,wantL,stepL,evL,LEnv.at,putL,loadFine,LEnv.keep,List.map_cons,List.map_nil,nbeq,bin_lss,Bool.and_true,Nat.reduceEqDiff,decide_true,decide_false,cond_true,cond_false,eq_self,List.all_nil,show ¬ ((i : Int) < (rs.length : Int)) by omega,List.range'_zero]
  | succ d ih =>
    intro i acc hi
    have hir : i < rs.length := by omega
    have hii : (i : Int) < (rs.length : Int) := by omega
    have hws := wrap_succ (show i + 1 < 9223372036854775808 by omega)
    have hg : (vals rs).getD i [] = rs[i].l := vals_at rs i hir
    have hrow := wr_row o hir
    have hint : ((wrow (vals rs) o i 0 rs.length).map (LV.int .i64))[i]? = some (.int .i64 (ws (i : Int) rs[i].l o 0)) := wr_int o hir hir
    have hWl := WR_len (vals rs) o
    rw [vals_length] at hWl
    have hrl := wrow_len (vals rs) o i rs.length
    rw [List.range'_succ,List.all_cons,law07_ShareTimes.L4_eq,hg]
    simp only [VL,IL,hWl,hrl] at ih hrow ⊢
    have ih := ih (i + 1)
    generalize (WR (vals rs) o).map Row.lv = WW at *
    generalize (wrow (vals rs) o i 0 rs.length).map (LV.int .i64) = RW at *
    generalize ws (i : Int) rs[i].l o 0 = x at *
    cases acc
    · have ih := ih false (by omega)
      rw [Bool.false_and] at ih ⊢
      rw [← ih]
      simp only [law07_ShareTimes.B4,law07_ShareTimes.B4.R0,beqT,exF_seq,exF_region,exF_block,exF_cond,exF_skip,runL,wantL,stepL,evL,evC,LEnv.at,putL,loadFine,loadL,cellsAt,Trk.putNew,Trk.up,Trk.touch,Trk.gives,Trk.calm,opdsOf,Trk.fresh,LEnv.keep,List.map_cons,List.map_nil,nbeq,nble,nblt,bin_add,bin_lss,natL_nat,List.any_cons,List.any_nil,Bool.or_false,Bool.or_true,Bool.and_true,Bool.false_and,Bool.not_true,Bool.not_false,Nat.reduceEqDiff,decide_true,decide_false,cond_true,cond_false,List.filter_nil,Nat.reduceAdd,Nat.reduceLeDiff,Nat.mul_one,eq_self,hii,hir,hrow,hws]
    · have ih := ih (decide (0 < x)) (by omega)
      rw [Bool.true_and,← ih]
      simp only [law07_ShareTimes.B4,law07_ShareTimes.B4.R0,beqT,exF_seq,exF_region,exF_block,exF_cond,exF_skip,runL,wantL,stepL,evL,evC,LEnv.at,putL,loadFine,loadL,cellsAt,Trk.putNew,Trk.up,Trk.touch,Trk.gives,Trk.calm,opdsOf,Trk.fresh,LEnv.keep,List.map_cons,List.map_nil,nbeq,nble,nblt,bin_add,bin_lss,bin_gtr,natL_nat,List.any_cons,List.any_nil,Bool.or_false,Bool.or_true,Bool.and_true,Bool.false_and,Bool.not_true,Bool.not_false,Nat.reduceEqDiff,decide_true,decide_false,cond_true,cond_false,List.filter_nil,Nat.reduceAdd,Nat.reduceLeDiff,Nat.mul_one,eq_self,hii,hir,hrow,hint,hws]
end Go.Am.Share
set_option linter.unusedVariables false
set_option linter.unusedSimpArgs false
set_option maxRecDepth 10000
set_option maxHeartbeats 400000
namespace Go.Am.Share
open Go.Am.G
end Go.Am.Share
