import Derived.Test.YtcckhkcchpfdoaaShareC12
import Derived.Test.YtcckhkcchpfdoaaShareWorks
import Derived.Test.YtcckhkcchpfdoaaLm14
set_option linter.unusedVariables false
set_option linter.unusedSimpArgs false
set_option maxRecDepth 10000
set_option maxHeartbeats 400000
namespace Go.Am.Share
open Go.Am.G
abbrev ci (l : List Nat) : List Int := l.map fun x : Nat => (x : Int)
abbrev bys (l : List Nat) : List LV := (ci l).map (LV.int .u8)
theorem ci_ln (l : List Nat) : (ci l).length = l.length := by simp
theorem bytes_nat : ∀ (ns : List Int),(∀ n ∈ ns,0 ≤ n ∧ n < 256) → ∃ bs : List Nat,ns = ci bs ∧ ∀ b ∈ bs,b < 256
  | [],_ => ⟨[],rfl,by simp⟩
  | n :: r,h => by
    obtain ⟨bs,e,hb⟩ := bytes_nat r fun x hx => h x (by simp [hx])
    obtain ⟨h0,h1⟩ := h n (by simp)
    obtain ⟨k,rfl⟩ := Int.eq_ofNat_of_zero_le h0
    refine ⟨k :: bs,by rw [e]; rfl,?_⟩
    intro b hb'
    rcases List.mem_cons.1 hb' with rfl | hb'
    · omega
    · exact hb b hb'
def rowL (q : List Nat) (M k : Nat) : List Int := (List.range k).map fun j => ((q.getD j 0 % (M + 1) : Nat) : Int)
theorem rowL_len (q : List Nat) (M k : Nat) : (rowL q M k).length = k := by simp [rowL]
theorem rowL_succ (q : List Nat) (M k : Nat) : rowL q M (k + 1) = rowL q M k ++ [((q.getD k 0 % (M + 1) : Nat) : Int)] := by simp [rowL,List.range_succ]
theorem bys_at {q : List Nat} {k : Nat} (h : k < q.length) : (bys q)[k]? = some (.int .u8 ((q.getD k 0 : Nat) : Int)) := by simp [List.getD_eq_getElem?_getD,h]
theorem getD_lt {q : List Nat} (hb : ∀ x ∈ q,x < 256) (k : Nat) : q.getD k 0 < 256 := by
  rw [List.getD_eq_getElem?_getD]
  by_cases h : k < q.length
  · rw [List.getElem?_eq_getElem h]; exact hb _ (List.getElem_mem _)
  · rw [List.getElem?_eq_none (by omega)]; simp
theorem rem_nat (a b : Nat) (h : b ≠ 0) : binL .rem (.int .i64 (a : Int)) (.int .i64 (b : Int)) = some (.int .i64 ((a % b : Nat) : Int)) := by
  rw [bin_rem _ _ _ (by omega)]; rfl
theorem made_inner (M : Nat) (hM : M ≤ 20) (q : List Nat) (hq6 : q.length = 6) (hqb : ∀ x ∈ q,x < 256) (n : Nat) (hn : n ≤ 6) (vo V29 V30 V31 : LV) (P : LMem) (jc : Nat) (o : Bool) (hP : P[jc]? = some ⟨bys q,o⟩) (d : Nat) : ∀ k,k + d = n →
    exF LP law07_Heap_made.L0 [(3,.int .i64 (M : Int)),(9,vo),(10,.int .i64 (n : Int)),(13,GV P.length (rowL q M k)),(29,V29),(30,V30),(31,V31),(36,.sl jc 0 n 6 0 1 6),(37,.int .i64 (n : Int)),(38,.int .i64 (k : Int))] (P ++ GM (rowL q M k)) =
      some (.exit 2,[(3,.int .i64 (M : Int)),(9,vo),(10,.int .i64 (n : Int)),(13,GV P.length (rowL q M n)),(29,V29),(30,V30),(31,V31)],P ++ GM (rowL q M n)) := by
  induction d with
  | zero =>
    intro k hk
    obtain rfl : k = n := by omega
    rw [law07_Heap_made.L0_eq]
    simp only [law07_Heap_made.B0,exF_seq,exF_region,exF_cond,exF_exit,runL,wantL,stepL,evL,LEnv.at,putL,loadFine,LEnv.keep,List.map_cons,List.map_nil,nbeq,bin_lss,Nat.reduceEqDiff,decide_true,decide_false,cond_true,cond_false,eq_self,Int.lt_irrefl]
  | succ d ih =>
    intro k hk
    have ih := ih (k + 1) (by omega)
    have hk6 : k < q.length := by omega
    have hkn : k < n := by omega
    have hj := (List.getElem?_eq_some_iff.1 hP).1
    have hP2 : (P ++ GM (rowL q M k))[jc]? = some ⟨bys q,o⟩ := by rw [List.getElem?_append_left hj]; exact hP
    have hbl : (bys q).length = 6 := by simp [hq6]
    have hat := bys_at hk6
    have hx := getD_lt hqb k
    have hwr : IntKind.i64.wrap ((q.getD k 0 : Nat) : Int) = ((q.getD k 0 : Nat) : Int) := wrap_in (by omega)
    have hM1 : IntKind.i64.wrap ((M : Int) + 1) = ((M + 1 : Nat) : Int) := by rw [wrap_in (by omega)]; simp
    have hrm := rem_nat (q.getD k 0) (M + 1) (by omega)
    have ha := append_grow P (rowL q M k) ((q.getD k 0 % (M + 1) : Nat) : Int) true (by rw [rowL_len]; omega)
    rw [← rowL_succ] at ha
    have hvx : ∀ (x : Int) m,views m [.int .i64 x] = some ([.int .i64 x],[]) := fun x m => views_pures m _ (by simp [LV.pures,LV.pure])
    have hws := wrap_succ (show k + 1 < 9223372036854775808 by omega)
    generalize q.getD k 0 % (M + 1) = y at *
    generalize q.getD k 0 = x at *
    generalize P ++ GM (rowL q M k) = M0 at *
    generalize P ++ GM (rowL q M (k + 1)) = M2 at *
    generalize GV P.length (rowL q M k) = g1 at *
    generalize GV P.length (rowL q M (k + 1)) = g2 at *
    generalize bys q = wc at *
    rw [law07_Heap_made.L0_eq]
    simp only [law07_Heap_made.B0,exF_seq,exF_region,exF_block,exF_cond,exF_skip,runL,wantL,stepL,evL,evC,LEnv.at,putL,loadFine,loadL,cellsAt,Trk.putNew,Trk.up,Trk.touch,Trk.gives,Trk.calm,Trk.hit,opdsOf,Trk.fresh,LEnv.keep,List.map_cons,List.map_nil,nbeq,nble,nblt,ofAV,ofAVs,bin_add,bin_lss,natL_nat,List.any_cons,List.any_nil,Bool.or_false,Bool.false_or,Bool.true_or,Bool.and_true,Nat.reduceEqDiff,decide_true,decide_false,cond_true,cond_false,List.filter_nil,Nat.reduceAdd,Nat.reduceLeDiff,reduceCtorEq,List.length_nil,List.length_cons,Nat.mul_one,eq_self,List.append_nil,List.nil_append,Nat.reduceDiv,spliceL,List.take_zero,List.take_succ_cons,List.drop_succ_cons,List.drop_nil,List.take_nil,Nat.le_refl,fillL,show ((k : Int) < (n : Int)) by omega,hkn,Nat.zero_add,hP2,hbl,hat,hwr,hM1,hrm,LV.cells,hvx,freeze_nil,ha,hws,ih]
def cut6 (w : List Nat) (i : Nat) : List Nat := (w.drop (2 + 6 * i)).take 6
theorem cut6_len {w : List Nat} (hw : w.length = 26) {i : Nat} (hi : i < 4) : (cut6 w i).length = 6 := by simp [cut6,hw]; omega
theorem cut6_lt {w : List Nat} (hb : ∀ x ∈ w,x < 256) (i : Nat) : ∀ x ∈ cut6 w i,x < 256 := fun x hx => hb x (List.mem_of_mem_drop (List.mem_of_mem_take hx))
def rowsM (w : List Nat) (M n r : Nat) : List (List Int) := (List.range r).map fun i => rowL (cut6 w i) M n
theorem rowsM_succ (w : List Nat) (M n r : Nat) : rowsM w M n (r + 1) = rowsM w M n r ++ [rowL (cut6 w r) M n] := by simp [rowsM,List.range_succ]
theorem rowsM_len (w : List Nat) (M n r : Nat) : (rowsM w M n r).length = r := by simp [rowsM]
theorem rl_pures (R : List (List Int)) : LV.pures (R.map RL) = true := by
  induction R with
  | nil => rfl
  | cons a r ih => simp [LV.pures,LV.pure,ih]
theorem cut_cells {w : List Nat} (i : Nat) : ((bys w).drop (2 + i * 6)).take 6 = bys (cut6 w i) := by
  simp [cut6,List.map_drop,List.map_take,Nat.mul_comm]
abbrev CB (w : List Nat) (i : Nat) : LBlk := ⟨bys (cut6 w i),true⟩
theorem bys_scalar (q : List Nat) : (bys q).all LV.scalar = true := by simp [LV.scalar]
end Go.Am.Share
set_option linter.unusedVariables false
set_option linter.unusedSimpArgs false
set_option maxRecDepth 10000
set_option maxHeartbeats 400000
namespace Go.Am.Share
open Go.Am.G
structure LOk (rs : List Row) (o : List Int) : Prop where
  pos : 0 < rs.length
  le4 : rs.length ≤ 4
  len : ∀ i (h : i < rs.length),o.length = rs[i].l.length
  ok : ∀ i (h : i < rs.length),Ok20 rs[i].l
  le6 : o.length ≤ 6
  own : ∀ x ∈ o,-1 ≤ x ∧ x < (rs.length : Int)
theorem LOk.d {rs : List Row} {o : List Int} (D : LOk rs o) : DOk rs o := ⟨D.pos,D.le4,D.len,D.ok,D.le6⟩
end Go.Am.Share
set_option linter.unusedVariables false
set_option linter.unusedSimpArgs false
set_option maxRecDepth 10000
set_option maxHeartbeats 400000
namespace Go.Am.Share
open Go.Am.G
end Go.Am.Share
