import Derived.Test.YtcckhkcchpfdoaaShareC12
import Derived.Test.YtcckhkcchpfdoaaShareWorks
import Derived.Test.YtcckhkcchpfdoaaLm14
set_option linter.unusedVariables false
set_option linter.unusedSimpArgs false
set_option maxRecDepth 10000
set_option maxHeartbeats 400000
namespace Go.Am.Share
open Go.Am.G
abbrev ci (l : List Nat) : List Int := l.map fun x : Nat => (x : Int)
abbrev bys (l : List Nat) : List LV := (ci l).map (LV.int .u8)
theorem ci_ln (l : List Nat) : (ci l).length = l.length := by simp
theorem bytes_nat : ∀ (ns : List Int),(∀ n ∈ ns,0 ≤ n ∧ n < 256) → ∃ bs : List Nat,ns = ci bs ∧ ∀ b ∈ bs,b < 256
  | [],_ => ⟨[],rfl,by simp⟩
  | n :: r,h => by
    obtain ⟨bs,e,hb⟩ := bytes_nat r fun x hx => h x (by simp [hx])
    obtain ⟨h0,h1⟩ := h n (by simp)
    obtain ⟨k,rfl⟩ := Int.eq_ofNat_of_zero_le h0
    refine ⟨k :: bs,by rw [e]; rfl,?_⟩
    intro b hb'
    rcases List.mem_cons.1 hb' with rfl | hb'
    · omega
    · exact hb b hb'
def rowL (q : List Nat) (M k : Nat) : List Int := (List.range k).map fun j => ((q.getD j 0 % (M + 1) : Nat) : Int)
theorem rowL_len (q : List Nat) (M k : Nat) : (rowL q M k).length = k := by simp [rowL]
theorem rowL_succ (q : List Nat) (M k : Nat) : rowL q M (k + 1) = rowL q M k ++ [((q.getD k 0 % (M + 1) : Nat) : Int)] := by simp [rowL,List.range_succ]
theorem bys_at {q : List Nat} {k : Nat} (h : k < q.length) : (bys q)[k]? = some (.int .u8 ((q.getD k 0 : Nat) : Int)) := by simp [List.getD_eq_getElem?_getD,h]
theorem getD_lt {q : List Nat} (hb : ∀ x ∈ q,x < 256) (k : Nat) : q.getD k 0 < 256 := by
  rw [List.getD_eq_getElem?_getD]
  by_cases h : k < q.length
  · rw [List.getElem?_eq_getElem h]; exact hb _ (List.getElem_mem _)
  · rw [List.getElem?_eq_none (by omega)]; simp
theorem rem_nat (a b : Nat) (h : b ≠ 0) : binL .rem (.int .i64 (a : Int)) (.int .i64 (b : Int)) = some (.int .i64 ((a % b : Nat) : Int)) := by
  rw [bin_rem _ _ _ (by omega)]; rfl
theorem made_inner (M : Nat) (hM : M ≤ 20) (q : List Nat) (hq6 : q.length = 6) (hqb : ∀ x ∈ q,x < 256) (n : Nat) (hn : n ≤ 6) (vo V29 V30 V31 : LV) (P : LMem) (jc : Nat) (o : Bool) (hP : P[jc]? = some ⟨bys q,o⟩) (d : Nat) : ∀ k,k + d = n →
    exF LP law07_Heap_made.L0 [(3,.int .i64 (M : Int)),(9,vo),(10,.int .i64 (n : Int)),(13,GV P.length (rowL q M k)),(29,V29),(30,V30),(31,V31),(36,.sl jc 0 n 6 0 1 6),(37,.int .i64 (n : Int)),(38,.int .i64 (k : Int))] (P ++ GM (rowL q M k)) =
      some (.exit 2,[(3,.int .i64 (M : Int)),(9,vo),(10,.int .i64 (n : Int)),(13,GV P.length (rowL q M n)),(29,V29),(30,V30),(31,V31)],P ++ GM (rowL q M n)) := by
  induction d with
  | zero =>
    intro k hk
    obtain rfl : k = n := by omega
    rw [law07_Heap_made.L0_eq]
    simp only [law07_Heap_made.B0,exF_seq,exF_region,exF_cond,exF_exit,runL,wantL,stepL,evL,LEnv.at,putL,loadFine,LEnv.keep,List.map_cons,List.map_nil,nbeq,bin_lss,Nat.reduceEqDiff,decide_true,decide_false,cond_true,cond_false,eq_self,Int.lt_irrefl]
  | succ d ih =>
    intro k hk
    have ih := ih (k + 1) (by omega)
    have hk6 : k < q.length := by omega
    have hkn : k < n := by omega
    have hj := (List.getElem?_eq_some_iff.1 hP).1
    have hP2 : (P ++ GM (rowL q M k))[jc]? = some ⟨bys q,o⟩ := by rw [List.getElem?_append_left hj]; exact hP
    have hbl : (bys q).length = 6 := by simp [hq6]
    have hat := bys_at hk6
    have hx := getD_lt hqb k
    have hwr : IntKind.i64.wrap ((q.getD k 0 : Nat) : Int) = ((q.getD k 0 : Nat) : Int) := wrap_in (by omega)
    have hM1 : IntKind.i64.wrap ((M : Int) + 1) = ((M + 1 : Nat) : Int) := by rw [wrap_in (by omega)]; simp
    have hrm := rem_nat (q.getD k 0) (M + 1) (by omega)
    have ha := append_grow P (rowL q M k) ((q.getD k 0 % (M + 1) : Nat) : Int) true (by rw [rowL_len]; omega)
    rw [← rowL_succ] at ha
    have hvx : ∀ (x : Int) m,views m [.int .i64 x] = some ([.int .i64 x],[]) := fun x m => views_pures m _ (by simp [LV.pures,LV.pure])
    have hws := wrap_succ (show k + 1 < 9223372036854775808 by omega)
    generalize q.getD k 0 % (M + 1) = y at *
    generalize q.getD k 0 = x at *
    generalize P ++ GM (rowL q M k) = M0 at *
    generalize P ++ GM (rowL q M (k + 1)) = M2 at *
    generalize GV P.length (rowL q M k) = g1 at *
    generalize GV P.length (rowL q M (k + 1)) = g2 at *
    generalize bys q = wc at *
    rw [law07_Heap_made.L0_eq]
    simp only [law07_Heap_made.B0,exF_seq,exF_region,exF_block,exF_cond,exF_skip,runL,wantL,stepL,evL,evC,LEnv.at,putL,loadFine,loadL,cellsAt,Trk.putNew,Trk.up,Trk.touch,Trk.gives,Trk.calm,Trk.hit,opdsOf,Trk.fresh,LEnv.keep,List.map_cons,List.map_nil,nbeq,nble,nblt,ofAV,ofAVs,bin_add,bin_lss,natL_nat,List.any_cons,List.any_nil,Bool.or_false,Bool.false_or,Bool.true_or,Bool.and_true,Nat.reduceEqDiff,decide_true,decide_false,cond_true,cond_false,List.filter_nil,Nat.reduceAdd,Nat.reduceLeDiff,reduceCtorEq,List.length_nil,List.length_cons,Nat.mul_one,eq_self,List.append_nil,List.nil_append,Nat.reduceDiv,spliceL,List.take_zero,List.take_succ_cons,List.drop_succ_cons,List.drop_nil,List.take_nil,Nat.le_refl,fillL,show ((k : Int) < (n : Int)) by omega,hkn,Nat.zero_add,hP2,hbl,hat,hwr,hM1,hrm,LV.cells,hvx,freeze_nil,ha,hws,ih]
def cut6 (w : List Nat) (i : Nat) : List Nat := (w.drop (2 + 6 * i)).take 6
theorem cut6_len {w : List Nat} (hw : w.length = 26) {i : Nat} (hi : i < 4) : (cut6 w i).length = 6 := by simp [cut6,hw]; omega
theorem cut6_lt {w : List Nat} (hb : ∀ x ∈ w,x < 256) (i : Nat) : ∀ x ∈ cut6 w i,x < 256 := fun x hx => hb x (List.mem_of_mem_drop (List.mem_of_mem_take hx))
def rowsM (w : List Nat) (M n r : Nat) : List (List Int) := (List.range r).map fun i => rowL (cut6 w i) M n
theorem rowsM_succ (w : List Nat) (M n r : Nat) : rowsM w M n (r + 1) = rowsM w M n r ++ [rowL (cut6 w r) M n] := by simp [rowsM,List.range_succ]
theorem rowsM_len (w : List Nat) (M n r : Nat) : (rowsM w M n r).length = r := by simp [rowsM]
theorem rl_pures (R : List (List Int)) : LV.pures (R.map RL) = true := by
  induction R with
  | nil => rfl
  | cons a r ih => simp [LV.pures,LV.pure,ih]
theorem cut_cells {w : List Nat} (i : Nat) : ((bys w).drop (2 + i * 6)).take 6 = bys (cut6 w i) := by
  simp [cut6,List.map_drop,List.map_take,Nat.mul_comm]
abbrev CB (w : List Nat) (i : Nat) : LBlk := ⟨bys (cut6 w i),true⟩
theorem bys_scalar (q : List Nat) : (bys q).all LV.scalar = true := by simp [LV.scalar]
end Go.Am.Share
set_option linter.unusedVariables false
set_option linter.unusedSimpArgs false
set_option maxRecDepth 10000
set_option maxHeartbeats 400000
namespace Go.Am.Share
open Go.Am.G
def addW : List Int → List Int → List Int → List Int
  | v :: vs,o :: os,c => addW vs os (if 0 ≤ o then c.set o.toNat (c.getD o.toNat 0 + v) else c)
  | _,_,c => c
theorem addW_len : ∀ (v o c : List Int),(addW v o c).length = c.length
  | [],_,c => by simp [addW]
  | v :: vs,[],c => by simp [addW]
  | v :: vs,o :: os,c => by rw [addW,addW_len vs os]; split <;> simp
theorem addW_ws : ∀ (v o c : List Int),(∀ x ∈ o,x < (c.length : Int)) → ∀ j,j < c.length → (addW v o c).getD j 0 = ws (j : Int) v o (c.getD j 0)
  | [],_,c,_,j,_ => by simp [addW,ws]
  | v :: vs,[],c,_,j,_ => by simp [addW,ws]
  | v :: vs,o :: os,c,ho,j,hj => by
    have h1 := ho o (by simp)
    rw [addW,ws,addW_ws vs os _ (fun x hx => by split <;> (try rw [List.length_set]) <;> exact ho x (by simp [hx])) j (by split <;> (try rw [List.length_set]) <;> exact hj)]
    congr 1
    by_cases c1 : 0 ≤ o
    · rw [if_pos c1]
      obtain ⟨q,rfl⟩ := Int.eq_ofNat_of_zero_le c1
      rw [Int.toNat_natCast,List.getD_eq_getElem?_getD,List.getElem?_set]
      by_cases c2 : q = j
      · subst c2
        simp [hj]
      · rw [if_neg c2,if_neg (by omega),List.getD_eq_getElem?_getD]
    · rw [if_neg c1,if_neg (by omega)]
theorem addW_all (v o : List Int) (n : Nat) (ho : ∀ x ∈ o,x < (n : Int)) : addW v o (List.replicate n 0) = (List.range' 0 n).map fun j : Nat => ws (j : Int) v o 0 := by
  apply List.ext_getElem (by rw [addW_len]; simp)
  intro j h1 h2
  rw [addW_len,List.length_replicate] at h1
  have h := addW_ws v o (List.replicate n 0) (by simpa using ho) j (by simpa using h1)
  rw [List.getD_eq_getElem?_getD,List.getElem?_eq_getElem (by rw [addW_len]; simpa using h1)] at h
  simp only [Option.getD_some] at h
  rw [h,List.getElem_map]
  simp [List.getD_eq_getElem?_getD,h1]
def small (b : Int) (c : List Int) : Prop := ∀ j,0 ≤ c.getD j 0 ∧ c.getD j 0 ≤ b
theorem setI_at {c : List Int} {q : Nat} (x : Int) (hq : q < c.length) (j : Nat) : (c.set q x).getD j 0 = if j = q then x else c.getD j 0 := by
  rw [List.getD_eq_getElem?_getD,List.getElem?_set]
  by_cases e : q = j
  · subst e; simp [hq]
  · have e2 : ¬ j = q := fun h => e h.symm
    rw [if_neg e,if_neg e2,List.getD_eq_getElem?_getD]
theorem int_get {l : List Int} {k : Nat} (h : k < l.length) : (ints l)[k]? = some (.int .i64 (l.getD k 0)) := by simp [List.getD_eq_getElem?_getD,h]
theorem worths_inner (nl ex nl' ex' : Bool) (sz sz' : Nat) {rs : List Row} {o : List Int} (i : Nat) (hi : i < rs.length) (hlen : o.length = rs[i].l.length) (h20 : Ok20 rs[i].l) (ho : ∀ x ∈ o,-1 ≤ x ∧ x < (rs.length : Int)) (h6 : o.length ≤ 6)
    (b : Nat) (cs : List LV) (hcl : cs.length = rs.length) (hci : cs[i]? = some (.sl b 0 rs.length rs.length 0 1 rs.length)) (hb0 : b ≠ 0) (d : Nat) : ∀ (k : Nat) (m : LMem) (c : List Int),k + d = o.length → m[0]? = some ⟨cs,true⟩ → m[b]? = some ⟨ints c,true⟩ → c.length = rs.length → small (1000 - 20 * d) c →
    ∃ m',exF LP law07_worths.L0 [(0,VL nl ex sz rs),(1,IL nl' ex' sz' o),(5,.int .i64 (rs.length : Int)),(6,.sl 0 0 rs.length rs.length 0 1 rs.length),(7,.int .i64 (i : Int)),(15,.int .i64 (rs.length : Int)),(16,.int .i64 (i : Int)),(24,IL nl' ex' sz' o),(25,.int .i64 (o.length : Int)),(26,.int .i64 (k : Int))] m =
      some (.exit 2,[(0,VL nl ex sz rs),(1,IL nl' ex' sz' o),(5,.int .i64 (rs.length : Int)),(6,.sl 0 0 rs.length rs.length 0 1 rs.length),(15,.int .i64 (rs.length : Int)),(16,.int .i64 (i : Int))],m') ∧
      m'[b]? = some ⟨ints (addW (rs[i].l.drop k) (o.drop k) c),true⟩ ∧ (∀ j,j ≠ b → m'[j]? = m[j]?) ∧ m'.length = m.length := by
  induction d with
  | zero =>
    intro k m c hk h0 hb hc _
    refine ⟨m,?_,?_,fun _ _ => rfl,rfl⟩
    · rw [law07_worths.L0_eq]
      simp only [law07_worths.B0,exF_seq,exF_region,exF_cond,exF_exit,runL,wantL,stepL,evL,LEnv.at,putL,loadFine,LEnv.keep,List.map_cons,List.map_nil,nbeq,bin_lss,Nat.reduceEqDiff,decide_true,decide_false,cond_true,cond_false,reduceCtorEq,eq_self,show ¬ ((k : Int) < (o.length : Int)) by omega]
    · rw [List.drop_eq_nil_of_le (show o.length ≤ k by omega),List.drop_eq_nil_of_le (show rs[i].l.length ≤ k by omega),hb]; rfl
  | succ d ih =>
    intro k m c hk h0 hb hc hs
    have h2 : k < o.length := by omega
    have h3 : k < rs[i].l.length := by omega
    have hws := wrap_succ (show k + 1 < 9223372036854775808 by omega)
    have hok := ho _ (List.getElem_mem h2)
    have hv := h20.at k h3
    have e1 := List.drop_eq_getElem_cons h2
    have e2 := List.drop_eq_getElem_cons h3
    rw [e1,e2,addW]
    have hbl := (List.getElem?_eq_some_iff.1 hb).1
    by_cases c1 : 0 ≤ o[k]
    · rw [if_pos c1]
      obtain ⟨q,hq⟩ := Int.eq_ofNat_of_zero_le c1
      have hqn : q < rs.length := by omega
      have hqc : q < c.length := by omega
      have hg := hs q
      rw [hq,Int.toNat_natCast]
      have hset := set_int .i64 c q (c.getD q 0 + rs[i].l[k]) hqc
      obtain ⟨M2,hM2⟩ : ∃ M,M = m.set b ⟨ints (c.set q (c.getD q 0 + rs[i].l[k])),true⟩ := ⟨_,rfl⟩
      have g0 : M2[0]? = some ⟨cs,true⟩ := by rw [hM2,List.getElem?_set_ne hb0]; exact h0
      have gb : M2[b]? = some ⟨ints (c.set q (c.getD q 0 + rs[i].l[k])),true⟩ := by rw [hM2,List.getElem?_set_self hbl]
      obtain ⟨m',a1,a2,a3,a4⟩ := ih (k + 1) M2 (c.set q (c.getD q 0 + rs[i].l[k])) (by omega) g0 gb (by simpa using hc) (fun j => by
        rw [setI_at _ hqc]
        have := hs j
        split <;> omega)
      refine ⟨m',?_,a2,fun j hj => by rw [a3 j hj,hM2,List.getElem?_set_ne (Ne.symm hj)],by rw [a4,hM2,List.length_set]⟩
      rw [law07_worths.L0_eq,← a1]
      have hil : (ints c).length = rs.length := by simp [hc]
      have hgt := int_get hqc
      have hwr : IntKind.i64.wrap (c.getD q 0 + rs[i].l[k]) = c.getD q 0 + rs[i].l[k] := wrap_in (by omega)
      have hoq : (ints o)[k]? = some (.int .i64 (q : Int)) := by rw [int_at _ _ _ h2,hq]
      have hq1 : q + 1 ≤ rs.length := hqn
      have hge : (0 : Int) ≤ (q : Int) := by omega
      have hn0 : ¬ m.length ≤ b := by omega
      have hn1 : ¬ m.length ≤ 0 := by omega
      simp only [law07_worths.B0,exF_seq,exF_region,exF_block,exF_cond,exF_skip,runL,wantL,stepL,evL,evC,LEnv.at,putL,loadFine,loadL,cellsAt,Trk.putNew,Trk.up,Trk.touch,Trk.gives,Trk.calm,Trk.hit,opdsOf,Trk.fresh,LEnv.keep,List.map_cons,List.map_nil,nbeq,nble,nblt,bin_add,bin_lss,bin_geq,natL_nat,List.any_cons,List.any_nil,Bool.or_false,Bool.or_true,Bool.and_true,Bool.false_and,Bool.not_true,Bool.not_false,Nat.reduceEqDiff,decide_true,decide_false,cond_true,cond_false,List.filter_nil,Nat.reduceAdd,Nat.reduceLeDiff,reduceCtorEq,List.length_nil,List.length_cons,Nat.mul_one,eq_self,LV.cells,storeL,spliceL,Nat.le_refl,LV.scalar,List.all_cons,List.all_nil,show ((k : Int) < (o.length : Int)) by omega,h2,hoq,hge,h0,hcl,hi,Nat.zero_add,hci,hb,hil,hqn,hq1,hgt,row_at _ _ hi,h3,int_at _ _ _ h3,hwr,hn0,hn1,hset,← hM2,hws]
    · rw [if_neg c1]
      obtain ⟨m',a1,a2,a3,a4⟩ := ih (k + 1) m c (by omega) h0 hb hc (fun j => by have := hs j; omega)
      refine ⟨m',?_,a2,a3,a4⟩
      rw [law07_worths.L0_eq,← a1]
      simp only [law07_worths.B0,exF_seq,exF_region,exF_block,exF_cond,exF_skip,runL,wantL,stepL,evL,evC,LEnv.at,putL,loadFine,loadL,cellsAt,Trk.putNew,Trk.up,Trk.touch,Trk.gives,Trk.calm,opdsOf,Trk.fresh,LEnv.keep,List.map_cons,List.map_nil,nbeq,nble,nblt,bin_add,bin_lss,bin_geq,natL_nat,List.any_cons,List.any_nil,Bool.or_false,Bool.or_true,Bool.and_true,Bool.false_and,Bool.not_true,Bool.not_false,Nat.reduceEqDiff,decide_true,decide_false,cond_true,cond_false,List.filter_nil,Nat.reduceAdd,Nat.reduceLeDiff,reduceCtorEq,Nat.mul_one,eq_self,show ((k : Int) < (o.length : Int)) by omega,h2,int_at _ _ _ h2,c1,hws]
abbrev SLr (n j : Nat) : LV := .sl (1 + j) 0 n n 0 1 n
def cells0 (n i : Nat) : List LV := (List.range n).map fun j => if j < i then SLr n j else .lst true true 0 0 []
theorem cells0_len (n i : Nat) : (cells0 n i).length = n := by simp [cells0]
theorem cells0_at (n i j : Nat) (h : j < n) : (cells0 n i)[j]? = some (if j < i then SLr n j else .lst true true 0 0 []) := by simp [cells0,h]
theorem cells0_set (n i : Nat) (h : i < n) : (cells0 n i).take i ++ [SLr n i] ++ (cells0 n i).drop (i + 1) = cells0 n (i + 1) := by
  apply List.ext_getElem?
  intro j
  have hl : ((cells0 n i).take i).length = i := by rw [List.length_take,cells0_len]; omega
  by_cases h1 : j < i
  · rw [List.append_assoc,List.getElem?_append_left (by omega),List.getElem?_take,if_pos h1,cells0_at _ _ _ (by omega),cells0_at _ _ _ (by omega),if_pos h1,if_pos (by omega)]
  · by_cases h2 : j = i
    · subst h2
      rw [List.append_assoc,List.getElem?_append_right (by omega),hl,Nat.sub_self,cells0_at _ _ _ h,if_pos (by omega)]; rfl
    · rw [List.getElem?_append_right (by rw [List.length_append,hl]; simp; omega),List.length_append,hl,List.getElem?_drop]
      by_cases h3 : j < n
      · rw [show i + 1 + (j - (i + [SLr n i].length)) = j by simp; omega,cells0_at _ _ _ h3,cells0_at _ _ _ h3,if_neg (by omega),if_neg (by omega)]
      · rw [List.getElem?_eq_none (by rw [cells0_len]; simp; omega),List.getElem?_eq_none (by rw [cells0_len]; omega)]
theorem zeros_nil (n : Nat) : zerosL [.lst true true 0 0 []] (n * 1) = cells0 n 0 := by
  unfold zerosL cells0
  rw [Nat.mul_one]
  refine List.map_congr_left fun j _ => ?_
  simp [Nat.mod_one]
structure LOk (rs : List Row) (o : List Int) : Prop where
  pos : 0 < rs.length
  le4 : rs.length ≤ 4
  len : ∀ i (h : i < rs.length),o.length = rs[i].l.length
  ok : ∀ i (h : i < rs.length),Ok20 rs[i].l
  le6 : o.length ≤ 6
  own : ∀ x ∈ o,-1 ≤ x ∧ x < (rs.length : Int)
theorem LOk.d {rs : List Row} {o : List Int} (D : LOk rs o) : DOk rs o := ⟨D.pos,D.le4,D.len,D.ok,D.le6⟩
theorem wrow_add {rs : List Row} {o : List Int} (D : LOk rs o) {i : Nat} (hi : i < rs.length) : addW rs[i].l o (List.replicate rs.length 0) = wrow (vals rs) o i 0 rs.length := by
  rw [addW_all _ _ _ (fun x hx => (D.own x hx).2),wrow,vals_at rs i hi]
theorem worths_outer (nl ex nl' ex' : Bool) (sz sz' : Nat) {rs : List Row} {o : List Int} (D : LOk rs o) (d : Nat) : ∀ (i : Nat) (m : LMem),i + d = rs.length → m.length = 1 + i → m[0]? = some ⟨cells0 rs.length i,true⟩ → (∀ j,j < i → m[1 + j]? = some ⟨ints (wrow (vals rs) o j 0 rs.length),true⟩) →
    ∃ m',exF LP law07_worths.L1 [(0,VL nl ex sz rs),(1,IL nl' ex' sz' o),(5,.int .i64 (rs.length : Int)),(6,.sl 0 0 rs.length rs.length 0 1 rs.length),(15,.int .i64 (rs.length : Int)),(16,.int .i64 (i : Int))] m =
      some (.exit 0,[(6,.sl 0 0 rs.length rs.length 0 1 rs.length)],m') ∧ m'[0]? = some ⟨cells0 rs.length rs.length,true⟩ ∧ ∀ j,j < rs.length → m'[1 + j]? = some ⟨ints (wrow (vals rs) o j 0 rs.length),true⟩ := by
  have h4 := D.le4
  induction d with
  | zero =>
    intro i m hi hl h0 hr
    obtain rfl : i = rs.length := by omega
    refine ⟨m,?_,h0,hr⟩
    rw [law07_worths.L1_eq]
    simp only [law07_worths.B1,exF_seq,exF_region,exF_cond,exF_exit,runL,wantL,stepL,evL,LEnv.at,putL,loadFine,LEnv.keep,List.map_cons,List.map_nil,nbeq,bin_lss,Nat.reduceEqDiff,decide_true,decide_false,cond_true,cond_false,reduceCtorEq,eq_self,Int.lt_irrefl]
  | succ d ih =>
    intro i m hi hl h0 hr
    have hir : i < rs.length := by omega
    have hcl := cells0_len rs.length i
    have hcs := cells0_set rs.length i hir
    have hrm : rs.length * 8 ≤ roomMost := by unfold roomMost; omega
    have hrm2 : rs.length ≤ roomMost := by unfold roomMost; omega
    obtain ⟨M2,hM2⟩ : ∃ M,M = (m ++ [(⟨ints (List.replicate rs.length 0),true⟩ : LBlk)]).set 0 ⟨cells0 rs.length (i + 1),true⟩ := ⟨_,rfl⟩
    have q0 : (m ++ [(⟨ints (List.replicate rs.length 0),true⟩ : LBlk)])[0]? = some ⟨cells0 rs.length i,true⟩ := by rw [List.getElem?_append_left (by omega)]; exact h0
    have g0 : M2[0]? = some ⟨cells0 rs.length (i + 1),true⟩ := by rw [hM2,List.getElem?_set_self (by simp)]
    have g1 : M2[1 + i]? = some ⟨ints (List.replicate rs.length 0),true⟩ := by
      rw [hM2,List.getElem?_set_ne (by omega),← hl]; simp
    have gl : M2.length = 1 + (i + 1) := by rw [hM2,List.length_set,List.length_append,hl]; simp; omega
    obtain ⟨m3,a1,a2,a3,a4⟩ := worths_inner nl ex nl' ex' sz sz' i hir (D.len i hir) (D.ok i hir) D.own D.le6 (1 + i) (cells0 rs.length (i + 1)) (cells0_len _ _) (by rw [cells0_at _ _ _ hir,if_pos (by omega)]) (by omega) o.length 0 M2 (List.replicate rs.length 0) (by omega) g0 g1 (by simp) (fun j => by
      have := D.le6
      have e : (List.replicate rs.length (0 : Int)).getD j 0 = 0 := by
        rw [List.getD_eq_getElem?_getD,List.getElem?_replicate]
        split <;> rfl
      rw [e]; omega)
    rw [List.drop_zero,List.drop_zero,wrow_add D hir] at a2
    obtain ⟨m',b1,b2,b3⟩ := ih (i + 1) m3 (by omega) (by rw [a4,gl]) (by rw [a3 0 (by omega)]; exact g0) (fun j hj => by
      by_cases c : j = i
      · subst c; exact a2
      · rw [a3 (1 + j) (by omega),hM2,List.getElem?_set_ne (by omega),List.getElem?_append_left (by omega)]
        exact hr j (by omega))
    refine ⟨m',?_,b2,b3⟩
    rw [law07_worths.L1_eq,← b1]
    simp only [Int.natCast_zero] at a1
    have hi1 : i + 1 ≤ rs.length := hir
    have hws := wrap_succ (show i + 1 < 9223372036854775808 by omega)
    have hz : ofAVs [.int .i64 0] = [.int .i64 0] := rfl
    have hzz := zeros_int rs.length
    have hn0 : ¬ (m ++ [(⟨ints (List.replicate rs.length 0),true⟩ : LBlk)]).length ≤ 0 := by simp
    simp only [law07_worths.B1,exF_seq,exF_region,exF_block,exF_cond,exF_skip,runL,wantL,stepL,evL,evC,LEnv.at,putL,loadFine,LEnv.keep,List.map_cons,List.map_nil,nbeq,nble,nblt,ofAV,ofAVs,lenL,bin_add,bin_lss,natL_nat,Bool.and_true,Nat.reduceEqDiff,decide_true,decide_false,cond_true,cond_false,reduceCtorEq,List.length_nil,List.length_cons,Nat.mul_one,eq_self,LV.cells,storeL,spliceL,LV.scalar,List.all_cons,List.all_nil,show ((i : Int) < (rs.length : Int)) by omega,hrm,hrm2,hzz,hl,q0,hcl,hir,hi1,Nat.zero_add,hcs,← hM2,a1,hws]
def WR (V : List (List Int)) (o : List Int) : List Row := (List.range V.length).map fun i => ⟨false,true,1,wrow V o i 0 V.length⟩
theorem WR_len (V : List (List Int)) (o : List Int) : (WR V o).length = V.length := by simp [WR]
theorem WR_at (V : List (List Int)) (o : List Int) (i : Nat) (h : i < (WR V o).length) : (WR V o)[i] = ⟨false,true,1,wrow V o i 0 V.length⟩ := by simp [WR]
theorem wrow_len (V : List (List Int)) (o : List Int) (i N : Nat) : (wrow V o i 0 N).length = N := by simp [wrow]
theorem wrow_at (V : List (List Int)) (o : List Int) (i j N : Nat) (h : j < N) : (wrow V o i 0 N).getD j 0 = ws (j : Int) (V.getD i []) o 0 := by
  simp [wrow,List.getD_eq_getElem?_getD,h]
theorem viewC_rows (n : Nat) (hn : 0 < n) (m : LMem) (W : Nat → List Int) (hW : ∀ j,(W j).length = n) : ∀ (l : List Nat) (k : Nat),l.length + 4 ≤ k → (∀ j ∈ l,m[1 + j]? = some ⟨ints (W j),true⟩) → ∃ ids,viewC k m (l.map (SLr n)) = some (l.map (fun j => IL false true 1 (W j)),ids)
  | [],k,hk,_ => by
    obtain ⟨k,rfl⟩ : ∃ q,k = q + 1 := ⟨k - 1,by omega⟩
    exact ⟨[],by rw [viewC.eq_def]; simp⟩
  | j :: r,k,hk,h => by
    obtain ⟨k,rfl⟩ : ∃ q,k = q + 4 := ⟨k - 4,by omega⟩
    simp only [List.length_cons] at hk
    have hj := h j (by simp)
    have v1 : view (k + 3) m (SLr n j) = some (IL false true 1 (W j),[1 + j]) := by
      have := view_slc k m (1 + j) 0 n n 0 n 1 (ints (W j)) true hj (by rw [List.drop_zero,List.take_of_length_le (by simp [hW])]; exact pures_int _ _) (by simp [hW]) (by omega) (Nat.le_refl _)
      rw [List.drop_zero,List.take_of_length_le (by simp [hW])] at this
      rw [this]
      simp [hW j]
    obtain ⟨ids,hr⟩ := viewC_rows n hn m W hW r (k + 3) (by omega) (fun q hq => h q (by simp [hq]))
    refine ⟨[1 + j] ++ ids,?_⟩
    rw [List.map_cons,viewC.eq_def]
    simp only [v1,hr]
    rfl
theorem worths_c (nl ex nl' ex' : Bool) (sz sz' : Nat) {rs : List Row} {o : List Int} (D : LOk rs o) (m : LMem) : clF LP n_law07_worths [VL nl ex sz rs,IL nl' ex' sz' o] m = some (.P,VL false true 1 (WR (vals rs) o),m) := by
  have h4 := D.le4
  have hpos := D.pos
  obtain ⟨m',a1,a2,a3⟩ := worths_outer nl ex nl' ex' sz sz' D rs.length 0 [⟨cells0 rs.length 0,true⟩] (by omega) rfl rfl (fun j hj => by omega)
  have hW : ∀ j,(wrow (vals rs) o j 0 rs.length).length = rs.length := fun j => wrow_len _ _ _ _
  obtain ⟨ids,hv⟩ := viewC_rows rs.length hpos m' (fun j => wrow (vals rs) o j 0 rs.length) hW (List.range rs.length) 98 (by simp; omega) (fun j hj => a3 j (by simpa using hj))
  have hc : cells0 rs.length rs.length = (List.range rs.length).map (SLr rs.length) := by
    unfold cells0
    refine List.map_congr_left fun j hj => ?_
    rw [if_pos (by simpa using hj)]
  have hnp : LV.pures ((List.range rs.length).map (SLr rs.length)) = false := by
    obtain ⟨q,hq⟩ : ∃ q,rs.length = q + 1 := ⟨rs.length - 1,by omega⟩
    rw [hq,List.range_succ_eq_map]
    simp [LV.pures,LV.pure]
  have hne : (List.range rs.length).map (SLr rs.length) ≠ [] := by
    intro e
    have := congrArg List.length e
    rw [List.length_map,List.length_range,List.length_nil] at this
    omega
  have hview : view 100 m' (.sl 0 0 rs.length rs.length 0 1 rs.length) = some (VL false true 1 (WR (vals rs) o),0 :: ids) := by
    rw [view.eq_def]
    simp only [a2,cells0_len,nbeq,nble,Nat.mul_one,Nat.zero_add,Nat.le_refl,decide_true,Bool.and_self,cond_true,List.drop_zero]
    rw [List.take_of_length_le (by rw [cells0_len]; omega),hc]
    have hL : viewL 99 m' ((List.range rs.length).map (SLr rs.length)) = some ((List.range rs.length).map (fun j => IL false true 1 (wrow (vals rs) o j 0 rs.length)),ids) := by
      obtain ⟨a,r,hq⟩ := List.exists_cons_of_ne_nil hne
      rw [hq] at hnp hv ⊢
      rw [viewL.eq_def]
      simp only [hnp,cond_false]
      exact hv
    rw [hL]
    simp [WR,vals_length]
  refine call_Pv lp_law07_worths rfl (by simp [LV.pures,LV.pure]) ?_ hview m
  have hrm : rs.length * 24 ≤ roomMost := by unfold roomMost; omega
  have hrm2 : rs.length ≤ roomMost := by unfold roomMost; omega
  have hz : ofAVs [.nilslice] = [.lst true true 0 0 []] := rfl
  have hzz := zeros_nil rs.length
  rw [Nat.mul_one] at hzz
  simp only [Int.natCast_zero] at a1
  simp only [law07_worths,law07_worths.B,exF_seq,exF_region,exF_block,exF_ret,runL,wantL,stepL,evL,evC,LEnv.at,putL,loadFine,LEnv.keep,LEnv.ofFrom,List.map_cons,List.map_nil,nbeq,nble,ofAV,ofAVs,lenL,natL_nat,Bool.and_true,Nat.reduceEqDiff,decide_true,decide_false,cond_true,cond_false,Nat.reduceAdd,reduceCtorEq,List.length_nil,Nat.mul_one,eq_self,retL,resultsL,resAllL,resOfL,List.nil_append,hrm,hrm2,hzz,a1]
end Go.Am.Share
set_option linter.unusedVariables false
set_option linter.unusedSimpArgs false
set_option maxRecDepth 10000
set_option maxHeartbeats 400000
namespace Go.Am.Share
open Go.Am.G
theorem wr_row {rs : List Row} (o : List Int) {i : Nat} (hi : i < rs.length) : ((WR (vals rs) o).map Row.lv)[i]? = some (IL false true 1 (wrow (vals rs) o i 0 rs.length)) := by
  rw [row_at _ _ (show i < (WR (vals rs) o).length by rw [WR_len,vals_length]; exact hi),WR_at,vals_length]
theorem wr_int {rs : List Row} (o : List Int) {i j : Nat} (hi : i < rs.length) (hj : j < rs.length) : (ints (wrow (vals rs) o i 0 rs.length))[j]? = some (.int .i64 (ws (j : Int) rs[i].l o 0)) := by
  rw [int_get (by rw [wrow_len]; exact hj),wrow_at _ _ _ _ _ hj,vals_at rs i hi]
end Go.Am.Share
