/-
  Plain: the rings' lengths, one after the other, tell when all is back: all tides are tried. No statement of the seat is proved here.
-/
import Derived.Test.YtgogknjedpmcgaaWashC3
import Derived.Test.YtgogknjedpmcgaaWashD10
set_option linter.unusedVariables false
set_option linter.unusedSimpArgs false
namespace Go.Am.Wash
/-- The least number that lengths divide. -/
def leastR : List (List Nat) → Nat → Option Nat
  | [], a => some a
  | l :: r, a => match backL 1 l.length a 9 a with
    | some a' => leastR r a'
    | none => none
def chkL (t : List Nat) : Bool := match ringsP t with
  | some R => match bkF t (idN t.length 0) 20 1 t with
    | some n => eqO (leastR R 1) n
    | none => false
  | none => false
theorem l1 : allP 1 chkL 1 [] = true := by kernel_rfl
theorem l2 : allP 2 chkL 2 [] = true := by kernel_rfl
theorem l3 : allP 3 chkL 3 [] = true := by kernel_rfl
theorem l4 : allP 4 chkL 4 [] = true := by kernel_rfl
theorem l5 : allP 5 chkL 5 [] = true := by kernel_rfl
theorem l6_0 : allP 6 chkL 5 [0] = true := by kernel_rfl
theorem l6_1 : allP 6 chkL 5 [1] = true := by kernel_rfl
theorem l6_2 : allP 6 chkL 5 [2] = true := by kernel_rfl
theorem l6_3 : allP 6 chkL 5 [3] = true := by kernel_rfl
theorem l6_4 : allP 6 chkL 5 [4] = true := by kernel_rfl
theorem l6_5 : allP 6 chkL 5 [5] = true := by kernel_rfl
theorem l6 : allP 6 chkL 6 [] = true := allP_one 6 chkL 5 [] fun y hy _ => match y, hy with
  | 0, _ => l6_0 | 1, _ => l6_1 | 2, _ => l6_2 | 3, _ => l6_3 | 4, _ => l6_4 | 5, _ => l6_5
theorem l7_01 : allP 7 chkL 5 [0, 1] = true := by kernel_rfl
theorem l7_02 : allP 7 chkL 5 [0, 2] = true := by kernel_rfl
theorem l7_03 : allP 7 chkL 5 [0, 3] = true := by kernel_rfl
theorem l7_04 : allP 7 chkL 5 [0, 4] = true := by kernel_rfl
theorem l7_05 : allP 7 chkL 5 [0, 5] = true := by kernel_rfl
theorem l7_06 : allP 7 chkL 5 [0, 6] = true := by kernel_rfl
theorem l7_0 : allP 7 chkL 6 [0] = true := allP_one 7 chkL 5 [0] fun y hy hb => match y, hy, hb with
  | 0, _, hb => absurd (by simp) hb
  | 1, _, _ => l7_01
  | 2, _, _ => l7_02
  | 3, _, _ => l7_03
  | 4, _, _ => l7_04
  | 5, _, _ => l7_05
  | 6, _, _ => l7_06
theorem l7_10 : allP 7 chkL 5 [1, 0] = true := by kernel_rfl
theorem l7_12 : allP 7 chkL 5 [1, 2] = true := by kernel_rfl
theorem l7_13 : allP 7 chkL 5 [1, 3] = true := by kernel_rfl
theorem l7_14 : allP 7 chkL 5 [1, 4] = true := by kernel_rfl
theorem l7_15 : allP 7 chkL 5 [1, 5] = true := by kernel_rfl
theorem l7_16 : allP 7 chkL 5 [1, 6] = true := by kernel_rfl
theorem l7_1 : allP 7 chkL 6 [1] = true := allP_one 7 chkL 5 [1] fun y hy hb => match y, hy, hb with
  | 0, _, _ => l7_10
  | 1, _, hb => absurd (by simp) hb
  | 2, _, _ => l7_12
  | 3, _, _ => l7_13
  | 4, _, _ => l7_14
  | 5, _, _ => l7_15
  | 6, _, _ => l7_16
theorem l7_20 : allP 7 chkL 5 [2, 0] = true := by kernel_rfl
theorem l7_21 : allP 7 chkL 5 [2, 1] = true := by kernel_rfl
theorem l7_23 : allP 7 chkL 5 [2, 3] = true := by kernel_rfl
theorem l7_24 : allP 7 chkL 5 [2, 4] = true := by kernel_rfl
theorem l7_25 : allP 7 chkL 5 [2, 5] = true := by kernel_rfl
theorem l7_26 : allP 7 chkL 5 [2, 6] = true := by kernel_rfl
theorem l7_2 : allP 7 chkL 6 [2] = true := allP_one 7 chkL 5 [2] fun y hy hb => match y, hy, hb with
  | 0, _, _ => l7_20
  | 1, _, _ => l7_21
  | 2, _, hb => absurd (by simp) hb
  | 3, _, _ => l7_23
  | 4, _, _ => l7_24
  | 5, _, _ => l7_25
  | 6, _, _ => l7_26
theorem l7_30 : allP 7 chkL 5 [3, 0] = true := by kernel_rfl
theorem l7_31 : allP 7 chkL 5 [3, 1] = true := by kernel_rfl
theorem l7_32 : allP 7 chkL 5 [3, 2] = true := by kernel_rfl
theorem l7_34 : allP 7 chkL 5 [3, 4] = true := by kernel_rfl
theorem l7_35 : allP 7 chkL 5 [3, 5] = true := by kernel_rfl
theorem l7_36 : allP 7 chkL 5 [3, 6] = true := by kernel_rfl
theorem l7_3 : allP 7 chkL 6 [3] = true := allP_one 7 chkL 5 [3] fun y hy hb => match y, hy, hb with
  | 0, _, _ => l7_30
  | 1, _, _ => l7_31
  | 2, _, _ => l7_32
  | 3, _, hb => absurd (by simp) hb
  | 4, _, _ => l7_34
  | 5, _, _ => l7_35
  | 6, _, _ => l7_36
theorem l7_40 : allP 7 chkL 5 [4, 0] = true := by kernel_rfl
theorem l7_41 : allP 7 chkL 5 [4, 1] = true := by kernel_rfl
theorem l7_42 : allP 7 chkL 5 [4, 2] = true := by kernel_rfl
theorem l7_43 : allP 7 chkL 5 [4, 3] = true := by kernel_rfl
theorem l7_45 : allP 7 chkL 5 [4, 5] = true := by kernel_rfl
theorem l7_46 : allP 7 chkL 5 [4, 6] = true := by kernel_rfl
theorem l7_4 : allP 7 chkL 6 [4] = true := allP_one 7 chkL 5 [4] fun y hy hb => match y, hy, hb with
  | 0, _, _ => l7_40
  | 1, _, _ => l7_41
  | 2, _, _ => l7_42
  | 3, _, _ => l7_43
  | 4, _, hb => absurd (by simp) hb
  | 5, _, _ => l7_45
  | 6, _, _ => l7_46
theorem l7_50 : allP 7 chkL 5 [5, 0] = true := by kernel_rfl
theorem l7_51 : allP 7 chkL 5 [5, 1] = true := by kernel_rfl
theorem l7_52 : allP 7 chkL 5 [5, 2] = true := by kernel_rfl
theorem l7_53 : allP 7 chkL 5 [5, 3] = true := by kernel_rfl
theorem l7_54 : allP 7 chkL 5 [5, 4] = true := by kernel_rfl
theorem l7_56 : allP 7 chkL 5 [5, 6] = true := by kernel_rfl
theorem l7_5 : allP 7 chkL 6 [5] = true := allP_one 7 chkL 5 [5] fun y hy hb => match y, hy, hb with
  | 0, _, _ => l7_50
  | 1, _, _ => l7_51
  | 2, _, _ => l7_52
  | 3, _, _ => l7_53
  | 4, _, _ => l7_54
  | 5, _, hb => absurd (by simp) hb
  | 6, _, _ => l7_56
theorem l7_60 : allP 7 chkL 5 [6, 0] = true := by kernel_rfl
theorem l7_61 : allP 7 chkL 5 [6, 1] = true := by kernel_rfl
theorem l7_62 : allP 7 chkL 5 [6, 2] = true := by kernel_rfl
theorem l7_63 : allP 7 chkL 5 [6, 3] = true := by kernel_rfl
theorem l7_64 : allP 7 chkL 5 [6, 4] = true := by kernel_rfl
theorem l7_65 : allP 7 chkL 5 [6, 5] = true := by kernel_rfl
theorem l7_6 : allP 7 chkL 6 [6] = true := allP_one 7 chkL 5 [6] fun y hy hb => match y, hy, hb with
  | 0, _, _ => l7_60
  | 1, _, _ => l7_61
  | 2, _, _ => l7_62
  | 3, _, _ => l7_63
  | 4, _, _ => l7_64
  | 5, _, _ => l7_65
  | 6, _, hb => absurd (by simp) hb
theorem l7 : allP 7 chkL 7 [] = true := allP_one 7 chkL 6 [] fun y hy _ => match y, hy with
  | 0, _ => l7_0 | 1, _ => l7_1 | 2, _ => l7_2 | 3, _ => l7_3 | 4, _ => l7_4 | 5, _ => l7_5 | 6, _ => l7_6
theorem least {t : List Nat} {R : List (List Nat)} {n : Nat} (h : Tide t.length t) (h1' : 1 ≤ t.length) (h7' : t.length ≤ 7) (K : Known t R n) : leastR R 1 = some n := by
  have hm : allP t.length chkL t.length [] = true := by
    match hn : t.length, h1', h7' with
    | 1, _, _ => exact l1
    | 2, _, _ => exact l2
    | 3, _, _ => exact l3
    | 4, _, _ => exact l4
    | 5, _, _ => exact l5
    | 6, _, _ => exact l6
    | 7, _, _ => exact l7
  have hc := tide_all hm h
  unfold chkL at hc
  rw [K.hp] at hc
  simp only [K.bk] at hc
  cases hd : leastR R 1 with
  | none => rw [hd] at hc; cases hc
  | some x => rw [hd, eqO] at hc; rw [Nat.eq_of_beq_eq_true hc]
end Go.Am.Wash


/-
  What functions of chapter 13 compute, outright 12: the law 'WashAround'.
-/
set_option linter.unusedVariables false
set_option linter.unusedSimpArgs false
set_option maxRecDepth 10000
set_option maxHeartbeats 2000000
namespace Go.Am.Wash
open Go.Am.G

def AT (t : List Nat) (n : Nat) (T : Int) : List Nat := aftV t (T % (n : Int)).toNat
theorem td_aft {t : List Nat} (D : Td t) (k : Nat) : Td (aftV t k) := by
  refine ⟨⟨rfl, ?_, ?_⟩, by rw [aftV_ln]; exact D.h1, by rw [aftV_ln]; exact D.h7⟩
  · exact nodup_map (it t k) _ List.nodup_range fun x hx y hy e => it_inj D.T (by simpa using hx) (by simpa using hy) k e
  · intro x hx
    rw [aftV_ln]
    obtain ⟨y, hy, rfl⟩ := List.mem_map.1 hx
    exact it_lt D.lt (by simpa using hy) k
theorem AT_add {t : List Nat} (D : Td t) {R : List (List Nat)} {n : Nat} (K : Known t R n) (k l : Int) : thenN (AT t n k) (AT t n l) = AT t n (k + l) := by
  have hn := K.npos
  obtain ⟨u, hu⟩ := Int.eq_ofNat_of_zero_le (show 0 ≤ k % (n : Int) from Int.emod_nonneg _ (by omega))
  obtain ⟨v, hv⟩ := Int.eq_ofNat_of_zero_le (show 0 ≤ l % (n : Int) from Int.emod_nonneg _ (by omega))
  have hs : ((k + l) % (n : Int)).toNat = (v + u) % n := by
    rw [Int.add_emod, hu, hv]
    have : (((u : Nat) : Int) + ((v : Nat) : Int)) % (n : Int) = (((v + u) % n : Nat) : Int) := by
      rw [Nat.add_comm]; simp
    rw [this, Int.toNat_natCast]
  unfold AT
  rw [hs, hu, hv, Int.toNat_natCast, Int.toNat_natCast]
  apply list_nth_ext (by rw [thenN_len, aftV_ln, aftV_ln])
  intro x hx
  rw [thenN_len, aftV_ln] at hx
  rw [thenN_nth _ _ _ (by rw [aftV_ln]; exact hx), aftV_at _ _ _ hx, aftV_at _ _ _ (it_lt D.lt hx u), aftV_at _ _ _ hx, ← it_add, it_mod t n x (K.per hx)]
theorem AT_back (t : List Nat) (n : Nat) (x : Int) : AT t n (x + (n : Int)) = AT t n x := by
  unfold AT
  have := Int.add_mul_emod_self_left x (n : Int) 1
  rw [Int.mul_one] at this
  rw [this]
theorem AT_zero (t : List Nat) (n : Nat) : AT t n (n : Int) = List.range t.length := by
  unfold AT
  rw [Int.emod_self]
  exact aftV_zero t
theorem AT_len (t : List Nat) (n : Nat) (T : Int) : (AT t n T).length = t.length := aftV_ln _ _

/-! ### Sorted -/
def isB (x : Option (Mode × LV × LMem)) : Bool := match x with
  | some (.P, .bool b, []) => b
  | _ => false
theorem sorted_run (a b : Bool) : allI (fun n => isB (callL LP 300 n_slices_IsSorted_int_int [IL a b 1 (ci (List.range n))] [])) 8 = true := by
  cases a <;> cases b <;> kernel_rfl
theorem sorted_c (a b : Bool) (n : Nat) (hn : n ≤ 7) (m : LMem) : clF LP n_slices_IsSorted_int_int [IL a b 1 (ci (List.range n))] m = some (.P, .bool true, m) := by
  have h := allI_ok _ _ (sorted_run a b) n (by omega)
  unfold isB at h
  split at h
  · rename_i v hx
    subst h
    have hc := clF_some.2 ⟨300, hx⟩
    exact call_view lp_slices_IsSorted_int_int rfl (ids := []) (views_pures m _ (by simp [LV.pures, LV.pure])) (by simp [LV.pures, LV.pure]) hc rfl
  · cases h

/-! ### The loops -/
theorem around_inner (T : Int) (hT : -1000000000 ≤ T ∧ T ≤ 1000000000) (N : Nat) (B0 : LBlk) (l : List Nat) (hl0 : 0 < l.length) (hl8 : l.length < 8) (hx : ∀ x ∈ l, x < N) (v7 v10 v12 v14 v18 v21 v98 v99 v100 : LV) (n : Nat) : ∀ (i : Nat) (o : List Nat), i + n = l.length → o.length = N →
    exF LP law13_WashAround.L0 [(7, v7), (8, .int .i64 T), (10, v10), (12, v12), (14, v14), (18, v18), (20, .sl 1 0 N N 0 1 N), (21, v21), (23, RLn l), (24, .int .i64 (l.length : Int)), (98, v98), (99, v99), (100, v100), (106, RLn l), (107, .int .i64 (l.length : Int)), (108, .int .i64 (i : Int))] [B0, ⟨ints (ci o), true⟩] =
      some (.exit 2, [(7, v7), (8, .int .i64 T), (10, v10), (12, v12), (14, v14), (18, v18), (20, .sl 1 0 N N 0 1 N), (21, v21), (24, .int .i64 (l.length : Int)), (98, v98), (99, v99), (100, v100)], [B0, ⟨ints (ci (aIn l T n i o)), true⟩]) := by
  induction n with
  | zero =>
    intro i o hi ho
    rw [law13_WashAround.L0_eq]
    simp only [law13_WashAround.B0, beqT, beqF, exF_seq, exF_region, exF_block, exF_cond, exF_ret, exF_exit, exF_skip, runL, wantL, stepL, evL, LEnv.at, putL, loadFine, loadL, cellsAt, Trk.putNew, Trk.up, Trk.touch, Trk.gives, Trk.calm, Trk.hit, opdsOf, Trk.fresh, LEnv.keep, LEnv.ofFrom, List.map_cons, List.map_nil, nbeq, nble, nblt, ofAV, ofAVs, lenL, bin_add, bin_sub, bin_mul, bin_eql, bin_neq, bin_lss, bin_leq, bin_gtr, bin_geq, natL_nat, natL_zero, natL_one, natL_two, Nat.zero_mul, List.any_cons, List.any_nil, Bool.or_false, Bool.false_or, Bool.true_or, Bool.or_true, Bool.and_true, Bool.true_and, Bool.and_false, Bool.false_and, Bool.not_true, Bool.not_false, Nat.reduceBEq, Nat.reduceEqDiff, decide_true, decide_false, cond_true, cond_false, List.filter_nil, List.filter_cons, Nat.reduceAdd, Nat.reduceLeDiff, reduceCtorEq, List.length_nil, List.length_cons, Nat.mul_one, if_true, if_false, Bool.false_eq_true, eq_self, and_true, true_and, retL, resultsL, resAllL, resOfL, List.append_nil, List.nil_append, List.cons_append, true_or, or_true, false_or, or_false, false_and, and_false, not_true_eq_false, not_false_eq_true, ne_eq, unL, trim_nil, views_pures, LV.pures, LV.pure, freeze, Nat.reduceDiv, Int.reduceEq, Int.reduceLT, Int.reduceLE, Int.natCast_zero, LV.cells, allocL, List.getElem?_cons_zero, List.getElem?_cons_succ, storeL, spliceL, List.take_zero, List.take_succ_cons, List.drop_zero, List.drop_succ_cons, List.drop_nil, List.take_nil, Nat.le_refl, Nat.reduceMul, List.set_cons_zero, List.set_cons_succ, LV.scalar, List.all_cons, List.all_nil, Nat.lt_add_one, Nat.zero_lt_one, Nat.reduceLT, Nat.lt_irrefl, fillL, List.length_append, foldIntL, kind_beq, pures_int, solids_int, plains_int, unders_int, scalars_int, show ¬ ((i : Int) < (l.length : Int)) by omega, aIn]
  | succ n ih =>
    intro i o hi ho
    have h2 : i < l.length := by omega
    have hp := hx _ (List.getElem_mem h2)
    have hne : ((l.length : Nat) : Int) ≠ 0 := by omega
    have hid : idxI i T l.length = ((i : Int) + T) % (l.length : Int) := tmod2 _ _ hl0
    obtain ⟨e, hee⟩ := Int.eq_ofNat_of_zero_le (show 0 ≤ ((i : Int) + T) % (l.length : Int) from Int.emod_nonneg _ hne)
    have hel : e < l.length := by have := Int.emod_lt_of_pos ((i : Int) + T) (show 0 < (l.length : Int) by omega); omega
    have htb := tmod_bound ((i : Int) + T) l.length hl0
    have hw1 : IntKind.i64.wrap ((i : Int) + T) = (i : Int) + T := wrap_in (by omega)
    have hw2 : IntKind.i64.wrap (((i : Int) + T).tmod (l.length : Int) + (l.length : Int)) = ((i : Int) + T).tmod (l.length : Int) + (l.length : Int) := wrap_in (by omega)
    have hw3 : (((i : Int) + T).tmod (l.length : Int) + (l.length : Int)).tmod (l.length : Int) = (e : Int) := by
      have : (((i : Int) + T).tmod (l.length : Int) + (l.length : Int)).tmod (l.length : Int) = idxI i T l.length := rfl
      rw [this, hid, hee]
    have ea : aIn l T (n + 1) i o = aIn l T n (i + 1) (o.set l[i] l[e]) := by
      rw [aIn, hid, hee, Int.toNat_natCast, nth_at l i h2, nth_at l e hel]
    have ih := ih (i + 1) (o.set l[i] l[e]) (by omega) (by simpa using ho)
    have hoc : (ints (ci o)).length = N := by simp [ho]
    have hst : (ints (ci o)).take l[i] ++ [.int .i64 ((l[e] : Nat) : Int)] ++ (ints (ci o)).drop (l[i] + 1) = ints (ci (o.set l[i] l[e])) := by
      have := set_int .i64 (ci o) l[i] ((l[e] : Nat) : Int) (by rw [ci_len]; omega)
      rw [ints, this]
      simp [List.map_set]
    have hRl : ∀ j (h : j < l.length), (ints (ci l))[j]? = some (.int .i64 ((l[j] : Nat) : Int)) := fun j h => by rw [ints, ci_map]; exact nat_at _ _ _ h
    rw [law13_WashAround.L0_eq, ea]
    simp only [law13_WashAround.B0, beqT, beqF, exF_seq, exF_region, exF_block, exF_cond, exF_ret, exF_exit, exF_skip, runL, wantL, stepL, evL, LEnv.at, putL, loadFine, loadL, cellsAt, Trk.putNew, Trk.up, Trk.touch, Trk.gives, Trk.calm, Trk.hit, opdsOf, Trk.fresh, LEnv.keep, LEnv.ofFrom, List.map_cons, List.map_nil, nbeq, nble, nblt, ofAV, ofAVs, lenL, bin_add, bin_sub, bin_mul, bin_eql, bin_neq, bin_lss, bin_leq, bin_gtr, bin_geq, natL_nat, natL_zero, natL_one, natL_two, Nat.zero_mul, List.any_cons, List.any_nil, Bool.or_false, Bool.false_or, Bool.true_or, Bool.or_true, Bool.and_true, Bool.true_and, Bool.and_false, Bool.false_and, Bool.not_true, Bool.not_false, Nat.reduceBEq, Nat.reduceEqDiff, decide_true, decide_false, cond_true, cond_false, List.filter_nil, List.filter_cons, Nat.reduceAdd, Nat.reduceLeDiff, reduceCtorEq, List.length_nil, List.length_cons, Nat.mul_one, if_true, if_false, Bool.false_eq_true, eq_self, and_true, true_and, retL, resultsL, resAllL, resOfL, List.append_nil, List.nil_append, List.cons_append, true_or, or_true, false_or, or_false, false_and, and_false, not_true_eq_false, not_false_eq_true, ne_eq, unL, trim_nil, views_pures, LV.pures, LV.pure, freeze, Nat.reduceDiv, Int.reduceEq, Int.reduceLT, Int.reduceLE, Int.natCast_zero, LV.cells, allocL, List.getElem?_cons_zero, List.getElem?_cons_succ, storeL, spliceL, List.take_zero, List.take_succ_cons, List.drop_zero, List.drop_succ_cons, List.drop_nil, List.take_nil, Nat.le_refl, Nat.reduceMul, List.set_cons_zero, List.set_cons_succ, LV.scalar, List.all_cons, List.all_nil, Nat.lt_add_one, Nat.zero_lt_one, Nat.reduceLT, Nat.lt_irrefl, fillL, List.length_append, foldIntL, kind_beq, pures_int, solids_int, plains_int, unders_int, scalars_int, ci_len, show ((i : Int) < (l.length : Int)) by omega, h2, hRl i h2, hw1, bin_rem _ _ _ hne, hw2, hw3, hel, hRl e hel, hp, Nat.zero_add, hoc, show l[i] + 1 ≤ N by omega, hst, wrap_succ (show i + 1 < 9223372036854775808 by omega), ih]
theorem leastA_loop (M : LMem) (m : Nat) (hm : 0 < m) (step : Nat) (hs : step ≤ 1000) (v7 v8 v10 v12 v14 v18 v20 v98 v99 v100 : LV) (f : Nat) : ∀ (n r : Nat), n + 1000 * f ≤ 100000 → backL 1 m step f n = some r →
    exF LP law13_WashAround.L1 [(7, v7), (8, v8), (10, v10), (12, v12), (14, v14), (18, v18), (20, v20), (21, .int .i64 (n : Int)), (24, .int .i64 (m : Int)), (27, .int .i64 (step : Int)), (98, v98), (99, v99), (100, v100)] M =
      some (.exit 4, [(7, v7), (8, v8), (10, v10), (12, v12), (14, v14), (18, v18), (20, v20), (21, .int .i64 (r : Int)), (98, v98), (99, v99), (100, v100)], M) ∧ r ≤ n + 1000 * f := by
  have hne : ((m : Nat) : Int) ≠ 0 := by omega
  induction f with
  | zero => intro n r _ h; cases h
  | succ f ih =>
    intro n r hn h
    rw [backL] at h
    have hr : binL .rem (.int .i64 (n : Int)) (.int .i64 (m : Int)) = some (.int .i64 ((n % m : Nat) : Int)) := by rw [bin_rem _ _ _ hne]; rfl
    cases c : Nat.beq (n % m) 0
    · have c' : ¬ ((n % m : Nat) : Int) = 0 := by
        have : ¬ n % m = 0 := fun e => by rw [e] at c; cases c
        omega
      rw [show Nat.beq 1 0 = false from rfl, cond_false, c, cond_false] at h
      obtain ⟨ih1, ih2⟩ := ih (n + step) r (by omega) h
      refine ⟨?_, by omega⟩
      have hw : IntKind.i64.wrap ((n : Int) + (step : Int)) = ((n + step : Nat) : Int) := by rw [wrap_in (by omega)]; simp
      rw [law13_WashAround.L1_eq]
      simp only [law13_WashAround.B1, beqT, beqF, exF_seq, exF_region, exF_block, exF_cond, exF_ret, exF_exit, exF_skip, runL, wantL, stepL, evL, LEnv.at, putL, loadFine, loadL, cellsAt, Trk.putNew, Trk.up, Trk.touch, Trk.gives, Trk.calm, Trk.hit, opdsOf, Trk.fresh, LEnv.keep, LEnv.ofFrom, List.map_cons, List.map_nil, nbeq, nble, nblt, ofAV, ofAVs, lenL, bin_add, bin_sub, bin_mul, bin_eql, bin_neq, bin_lss, bin_leq, bin_gtr, bin_geq, natL_nat, natL_zero, natL_one, natL_two, Nat.zero_mul, List.any_cons, List.any_nil, Bool.or_false, Bool.false_or, Bool.true_or, Bool.or_true, Bool.and_true, Bool.true_and, Bool.and_false, Bool.false_and, Bool.not_true, Bool.not_false, Nat.reduceBEq, Nat.reduceEqDiff, decide_true, decide_false, cond_true, cond_false, List.filter_nil, List.filter_cons, Nat.reduceAdd, Nat.reduceLeDiff, reduceCtorEq, List.length_nil, List.length_cons, Nat.mul_one, if_true, if_false, Bool.false_eq_true, eq_self, and_true, true_and, retL, resultsL, resAllL, resOfL, List.append_nil, List.nil_append, List.cons_append, true_or, or_true, false_or, or_false, false_and, and_false, not_true_eq_false, not_false_eq_true, ne_eq, unL, trim_nil, views_pures, LV.pures, LV.pure, freeze, Nat.reduceDiv, Int.reduceEq, Int.reduceLT, Int.reduceLE, Int.natCast_zero, LV.cells, allocL, List.getElem?_cons_zero, List.getElem?_cons_succ, storeL, spliceL, List.take_zero, List.take_succ_cons, List.drop_zero, List.drop_succ_cons, List.drop_nil, List.take_nil, Nat.le_refl, Nat.reduceMul, List.set_cons_zero, List.set_cons_succ, LV.scalar, List.all_cons, List.all_nil, Nat.lt_add_one, Nat.zero_lt_one, Nat.reduceLT, Nat.lt_irrefl, fillL, List.length_append, foldIntL, kind_beq, pures_int, solids_int, plains_int, unders_int, scalars_int, hr, c', hw, ih1]
    · have c' : ((n % m : Nat) : Int) = 0 := by
        have : n % m = 0 := by simpa using c
        omega
      rw [show Nat.beq 1 0 = false from rfl, cond_false, c, cond_true] at h
      obtain rfl := Option.some.inj h
      refine ⟨?_, by omega⟩
      rw [law13_WashAround.L1_eq]
      simp only [law13_WashAround.B1, beqT, beqF, exF_seq, exF_region, exF_block, exF_cond, exF_ret, exF_exit, exF_skip, runL, wantL, stepL, evL, LEnv.at, putL, loadFine, loadL, cellsAt, Trk.putNew, Trk.up, Trk.touch, Trk.gives, Trk.calm, Trk.hit, opdsOf, Trk.fresh, LEnv.keep, LEnv.ofFrom, List.map_cons, List.map_nil, nbeq, nble, nblt, ofAV, ofAVs, lenL, bin_add, bin_sub, bin_mul, bin_eql, bin_neq, bin_lss, bin_leq, bin_gtr, bin_geq, natL_nat, natL_zero, natL_one, natL_two, Nat.zero_mul, List.any_cons, List.any_nil, Bool.or_false, Bool.false_or, Bool.true_or, Bool.or_true, Bool.and_true, Bool.true_and, Bool.and_false, Bool.false_and, Bool.not_true, Bool.not_false, Nat.reduceBEq, Nat.reduceEqDiff, decide_true, decide_false, cond_true, cond_false, List.filter_nil, List.filter_cons, Nat.reduceAdd, Nat.reduceLeDiff, reduceCtorEq, List.length_nil, List.length_cons, Nat.mul_one, if_true, if_false, Bool.false_eq_true, eq_self, and_true, true_and, retL, resultsL, resAllL, resOfL, List.append_nil, List.nil_append, List.cons_append, true_or, or_true, false_or, or_false, false_and, and_false, not_true_eq_false, not_false_eq_true, ne_eq, unL, trim_nil, views_pures, LV.pures, LV.pure, freeze, Nat.reduceDiv, Int.reduceEq, Int.reduceLT, Int.reduceLE, Int.natCast_zero, LV.cells, allocL, List.getElem?_cons_zero, List.getElem?_cons_succ, storeL, spliceL, List.take_zero, List.take_succ_cons, List.drop_zero, List.drop_succ_cons, List.drop_nil, List.take_nil, Nat.le_refl, Nat.reduceMul, List.set_cons_zero, List.set_cons_succ, LV.scalar, List.all_cons, List.all_nil, Nat.lt_add_one, Nat.zero_lt_one, Nat.reduceLT, Nat.lt_irrefl, fillL, List.length_append, foldIntL, kind_beq, pures_int, solids_int, plains_int, unders_int, scalars_int, hr, c']
theorem leastR_ge : ∀ (R : List (List Nat)) (a r : Nat), leastR R a = some r → a ≤ r
  | [], a, r, h => by simp only [leastR, Option.some.injEq] at h; omega
  | l :: q, a, r, h => by
    rw [leastR] at h
    cases e : backL 1 l.length a 9 a with
    | none => rw [e] at h; cases h
    | some a' =>
      rw [e] at h
      have h1 := backL_ge _ _ _ _ _ _ e
      have h2 := leastR_ge q a' r h
      omega
theorem around_outer (T : Int) (hT : -1000000000 ≤ T ∧ T ≤ 1000000000) (N : Nat) (B0 : LBlk) (a b : Bool) (R : List (List Nat)) (hR : ∀ l ∈ R, 0 < l.length ∧ l.length < 8 ∧ ∀ x ∈ l, x < N) (hlen : R.length ≤ 100) (v7 v10 v12 v14 v18 : LV) (r : Nat) (hr : r < 100) (n : Nat) : ∀ (k c : Nat) (o : List Nat), k + n = R.length → o.length = N → leastR (R.drop k) c = some r →
    exF LP law13_WashAround.L2 [(7, v7), (8, .int .i64 T), (10, v10), (12, v12), (14, v14), (18, v18), (20, .sl 1 0 N N 0 1 N), (21, .int .i64 (c : Int)), (98, .lst a b 1 R.length (rowsL R)), (99, .int .i64 (R.length : Int)), (100, .int .i64 (k : Int))] [B0, ⟨ints (ci o), true⟩] =
      some (.exit 0, [(7, v7), (8, .int .i64 T), (10, v10), (12, v12), (14, v14), (18, v18), (20, .sl 1 0 N N 0 1 N), (21, .int .i64 (r : Int))], [B0, ⟨ints (ci (aOut T (R.drop k) o)), true⟩]) := by
  induction n with
  | zero =>
    intro k c o hk ho h
    rw [List.drop_eq_nil_of_le (show R.length ≤ k by omega)] at h ⊢
    simp only [leastR, Option.some.injEq] at h
    subst h
    rw [law13_WashAround.L2_eq]
    simp only [law13_WashAround.B2, beqT, beqF, exF_seq, exF_region, exF_block, exF_cond, exF_ret, exF_exit, exF_skip, runL, wantL, stepL, evL, LEnv.at, putL, loadFine, loadL, cellsAt, Trk.putNew, Trk.up, Trk.touch, Trk.gives, Trk.calm, Trk.hit, opdsOf, Trk.fresh, LEnv.keep, LEnv.ofFrom, List.map_cons, List.map_nil, nbeq, nble, nblt, ofAV, ofAVs, lenL, bin_add, bin_sub, bin_mul, bin_eql, bin_neq, bin_lss, bin_leq, bin_gtr, bin_geq, natL_nat, natL_zero, natL_one, natL_two, Nat.zero_mul, List.any_cons, List.any_nil, Bool.or_false, Bool.false_or, Bool.true_or, Bool.or_true, Bool.and_true, Bool.true_and, Bool.and_false, Bool.false_and, Bool.not_true, Bool.not_false, Nat.reduceBEq, Nat.reduceEqDiff, decide_true, decide_false, cond_true, cond_false, List.filter_nil, List.filter_cons, Nat.reduceAdd, Nat.reduceLeDiff, reduceCtorEq, List.length_nil, List.length_cons, Nat.mul_one, if_true, if_false, Bool.false_eq_true, eq_self, and_true, true_and, retL, resultsL, resAllL, resOfL, List.append_nil, List.nil_append, List.cons_append, true_or, or_true, false_or, or_false, false_and, and_false, not_true_eq_false, not_false_eq_true, ne_eq, unL, trim_nil, views_pures, LV.pures, LV.pure, freeze, Nat.reduceDiv, Int.reduceEq, Int.reduceLT, Int.reduceLE, Int.natCast_zero, LV.cells, allocL, List.getElem?_cons_zero, List.getElem?_cons_succ, storeL, spliceL, List.take_zero, List.take_succ_cons, List.drop_zero, List.drop_succ_cons, List.drop_nil, List.take_nil, Nat.le_refl, Nat.reduceMul, List.set_cons_zero, List.set_cons_succ, LV.scalar, List.all_cons, List.all_nil, Nat.lt_add_one, Nat.zero_lt_one, Nat.reduceLT, Nat.lt_irrefl, fillL, List.length_append, foldIntL, kind_beq, pures_int, solids_int, plains_int, unders_int, scalars_int, show ¬ ((k : Int) < (R.length : Int)) by omega, aOut]
  | succ n ih =>
    intro k c o hk ho h
    have h2 : k < R.length := by omega
    obtain ⟨r1, r2, r3⟩ := hR _ (List.getElem_mem h2)
    rw [List.drop_eq_getElem_cons h2] at h ⊢
    have hge := leastR_ge _ _ _ h
    rw [leastR] at h
    cases e : backL 1 R[k].length c 9 c with
    | none => rw [e] at h; cases h
    | some c' =>
      rw [e] at h
      have hin := around_inner T hT N B0 R[k] r1 r2 r3 v7 v10 v12 v14 v18 (.int .i64 (c : Int)) (.lst a b 1 R.length (rowsL R)) (.int .i64 (R.length : Int)) (.int .i64 (k : Int)) R[k].length 0 o (by omega) ho
      simp only [Int.natCast_zero] at hin
      obtain ⟨hls, _⟩ := leastA_loop [B0, ⟨ints (ci (aIn R[k] T R[k].length 0 o)), true⟩] R[k].length r1 c (by omega) v7 (.int .i64 T) v10 v12 v14 v18 (.sl 1 0 N N 0 1 N) (.lst a b 1 R.length (rowsL R)) (.int .i64 (R.length : Int)) (.int .i64 (k : Int)) 9 c c' (by omega) e
      have ih := ih (k + 1) c' (aIn R[k] T R[k].length 0 o) (by omega) (by rw [aIn_len, ho]) h
      rw [law13_WashAround.L2_eq, aOut]
      simp only [law13_WashAround.B2, beqT, beqF, exF_seq, exF_region, exF_block, exF_cond, exF_ret, exF_exit, exF_skip, runL, wantL, stepL, evL, LEnv.at, putL, loadFine, loadL, cellsAt, Trk.putNew, Trk.up, Trk.touch, Trk.gives, Trk.calm, Trk.hit, opdsOf, Trk.fresh, LEnv.keep, LEnv.ofFrom, List.map_cons, List.map_nil, nbeq, nble, nblt, ofAV, ofAVs, lenL, bin_add, bin_sub, bin_mul, bin_eql, bin_neq, bin_lss, bin_leq, bin_gtr, bin_geq, natL_nat, natL_zero, natL_one, natL_two, Nat.zero_mul, List.any_cons, List.any_nil, Bool.or_false, Bool.false_or, Bool.true_or, Bool.or_true, Bool.and_true, Bool.true_and, Bool.and_false, Bool.false_and, Bool.not_true, Bool.not_false, Nat.reduceBEq, Nat.reduceEqDiff, decide_true, decide_false, cond_true, cond_false, List.filter_nil, List.filter_cons, Nat.reduceAdd, Nat.reduceLeDiff, reduceCtorEq, List.length_nil, List.length_cons, Nat.mul_one, if_true, if_false, Bool.false_eq_true, eq_self, and_true, true_and, retL, resultsL, resAllL, resOfL, List.append_nil, List.nil_append, List.cons_append, true_or, or_true, false_or, or_false, false_and, and_false, not_true_eq_false, not_false_eq_true, ne_eq, unL, trim_nil, views_pures, LV.pures, LV.pure, freeze, Nat.reduceDiv, Int.reduceEq, Int.reduceLT, Int.reduceLE, Int.natCast_zero, LV.cells, allocL, List.getElem?_cons_zero, List.getElem?_cons_succ, storeL, spliceL, List.take_zero, List.take_succ_cons, List.drop_zero, List.drop_succ_cons, List.drop_nil, List.take_nil, Nat.le_refl, Nat.reduceMul, List.set_cons_zero, List.set_cons_succ, LV.scalar, List.all_cons, List.all_nil, Nat.lt_add_one, Nat.zero_lt_one, Nat.reduceLT, Nat.lt_irrefl, fillL, List.length_append, foldIntL, kind_beq, pures_int, solids_int, plains_int, unders_int, scalars_int, ci_len, show ((k : Int) < (R.length : Int)) by omega, h2, rowsL_at _ _ h2, hin, hls, wrap_succ (show k + 1 < 9223372036854775808 by omega), ih]
theorem around_in (ns : List Int) (hl : ns.length = 8) (hb : ∀ n ∈ ns, 0 ≤ n ∧ n < 256) (one : Int) (ho : -2147483648 ≤ one ∧ one ≤ 2147483647) (two : Int) (ht : -2147483648 ≤ two ∧ two ≤ 2147483647) :
    clF LP n_law13_WashAround [.agg (ns.map (LV.int .u8)), .int .i32 one, .int .i32 two] [] = some (.P, .bool true, []) := by
  obtain ⟨p, bs, e, hp, hb7, hbb⟩ := swell_nat hl hb
  rw [e]
  clear e hb hl
  have hm := fun m => made_c p hp 7 (by omega) (by omega) bs hb7 hbb m
  simp only [show ((7 : Nat) : Int) = 7 from rfl] at hm
  have hk : p % 7 < 7 := Nat.mod_lt _ (by omega)
  obtain ⟨D, hdl⟩ := drawN_td (show 1 ≤ 1 + p % 7 by omega) (show 1 + p % 7 ≤ 7 by omega) bs
  generalize drawN (1 + p % 7) bs = t at *
  have h1 := D.h1
  have h7 := D.h7
  obtain ⟨R, n, K⟩ := known D.T D.h1 D.h7
  have hL := least D.T h1 h7 K
  have hnp := K.npos
  have hn1 := K.n100
  have hbl : (bys (p :: bs)).length = 8 := by simp [hb7]
  have hps : LV.pures (bys (p :: bs)) = true := pures_int _ _
  have htk : (bys (p :: bs)).take 8 = bys (p :: bs) := List.take_of_length_le (by omega)
  generalize bys (p :: bs) = w8 at *
  have hpure1 : LV.pures [LV.agg w8, .int .i32 one, .int .i32 two] = true := by simp only [LV.pures, LV.pure, hps, Bool.and_true]
  have w1 : IntKind.i64.wrap one = one := wrap_in (by omega)
  have w2 : IntKind.i64.wrap two = two := wrap_in (by omega)
  have r1 : binL .rem (.int .i64 one) (.int .i64 400000000) = some (.int .i64 (one.tmod 400000000)) := bin_rem _ _ _ (by omega)
  have r2 : binL .rem (.int .i64 two) (.int .i64 400000000) = some (.int .i64 (two.tmod 400000000)) := bin_rem _ _ _ (by omega)
  have b1 := tmod_bound one 400000000 (by omega)
  have b2 := tmod_bound two 400000000 (by omega)
  simp only [show ((400000000 : Nat) : Int) = 400000000 from rfl] at b1 b2
  generalize one.tmod 400000000 = k at *
  generalize two.tmod 400000000 = l at *
  have w3 : IntKind.i64.wrap (k + l) = k + l := wrap_in (by omega)
  have r3 : binL .rem (.int .i64 k) (.int .i64 1000) = some (.int .i64 (k.tmod 1000)) := bin_rem _ _ _ (by omega)
  have b3 := tmod_bound k 1000 (by omega)
  simp only [show ((1000 : Nat) : Int) = 1000 from rfl] at b3
  generalize k.tmod 1000 = q at *
  have w4 : IntKind.i64.wrap (q + (n : Int)) = q + (n : Int) := wrap_in (by omega)
  have aft : ∀ T : Int, -1000000000 ≤ T ∧ T ≤ 1000000000 → ∃ a b, ∀ m, clF LP n_wash_After [IL false false 1 (ci t), .int .i64 T] m = some (.P, .tup [IL a b 1 (ci (AT t n T)), .int .i64 0], m) := fun T hT => afterP_c false false D K D.chk T (by simp only [inB, decide_eq_true_eq]; exact hT)
  obtain ⟨a1, a2, fk⟩ := aft k (by omega)
  obtain ⟨a3, a4, fl⟩ := aft l (by omega)
  obtain ⟨a5, a6, fkl⟩ := aft (k + l) (by omega)
  obtain ⟨a7, a8, fqn⟩ := aft (q + (n : Int)) (by omega)
  obtain ⟨a9, a10, fq⟩ := aft q (by omega)
  obtain ⟨a11, a12, fn⟩ := aft (n : Int) (by omega)
  obtain ⟨c1, c2, hri⟩ := ringsP_ok false false D K D.chk
  obtain ⟨d1, d2, hrl⟩ := ringsL_c false false 1 D K
  have hbk := fun m => backP_c false false D K D.chk m
  have hls : ∀ m, clF LP n_law13_lists [.lst c1 c2 1 R.length (rowsL R), .lst d1 d2 1 R.length (rowsL R)] m = some (.P, .bool true, m) := fun m => lists_refl c1 c2 d1 d2 1 1 R (by have := K.h8; omega) (fun r hr => by have := (K.rows r hr).2.1; omega) m
  have hat : ∀ T, (AT t n T).length = t.length := AT_len t n
  have hout := around_outer k (by omega) t.length ⟨w8, true⟩ c1 c2 R (fun l hl => ⟨(K.rows l hl).1, (K.rows l hl).2.1, (K.rows l hl).2.2.2⟩) (by have := K.h8; omega) (IL false false 1 (ci t)) (IL a1 a2 1 (ci (AT t n k))) (IL a3 a4 1 (ci (AT t n l))) (IL a5 a6 1 (ci (AT t n (k + l)))) (.int .i64 (n : Int)) n hn1 R.length 0 1 (List.replicate t.length 0) (by omega) (by simp) (by rw [List.drop_zero]; exact hL)
  rw [List.drop_zero, aft_prog K k] at hout
  have hout := hout
  rw [show aftV t (k % (n : Int)).toNat = AT t n k from rfl] at hout
  simp only [Int.natCast_zero, Int.natCast_one] at hout
  have hz : zerosL [.int .i64 0] t.length = ints (ci (List.replicate t.length 0)) := by rw [zeros_int]; simp
  have rm1 : t.length * 8 ≤ roomMost := by unfold roomMost; omega
  have rm2 : t.length ≤ roomMost := by unfold roomMost; omega
  have hl2 : (ci t).length = t.length := ci_len t
  have hcl : (ints (ci (AT t n k))).length = t.length := by simp [hat]
  -- what lies in memory is shown
  have hsame1 : clF LP n_law13_same [IL a1 a2 1 (ci (AT t n k)), .sl 1 0 t.length t.length 0 1 t.length] [⟨w8, true⟩, ⟨ints (ci (AT t n k)), true⟩] = some (.P, .bool true, [⟨w8, true⟩, ⟨ints (ci (AT t n k)), true⟩]) := by
    have hv : ∀ j, view (j + 3) [⟨w8, true⟩, ⟨ints (ci (AT t n k)), true⟩] (.sl 1 0 t.length t.length 0 1 t.length) = some (IL false true 1 (ci (AT t n k)), [1]) := fun j => by
      have := view_sl j [⟨w8, true⟩, ⟨ints (ci (AT t n k)), true⟩] 1 0 t.length t.length 0 (ci (AT t n k)) true rfl (by rw [ci_len]; exact hat k) (by omega) t.length (Nat.le_refl _)
      rw [List.drop_zero, List.take_of_length_le (by rw [ci_len, hat]; omega)] at this
      rw [this]
      simp [nbeq]
    refine call_view lp_law13_same rfl (vs := [IL a1 a2 1 (ci (AT t n k)), IL false true 1 (ci (AT t n k))]) (ids := [1]) ?_ (by simp [LV.pures, LV.pure]) (same_refl _ _ _ _ _ _ (ci (AT t n k)) (by rw [ci_len, hat]; omega) []) rfl
    exact views_snd 32 _ _ _ _ _ hv (by simp [LV.pure]) (by simp [LV.pures, LV.pure])
  have Dk : Td (AT t n k) := td_aft D _
  have Dl : Td (AT t n l) := td_aft D _
  have hth := fun m => thenP_c a1 a2 a3 a4 (ci (AT t n k)) (ci (AT t n l)) (by rw [ci_len, hat]; omega) (by rw [ci_len, hat]; omega) m
  rw [thenV_td Dk Dl (by rw [hat, hat]), both_td Dk Dl (by rw [hat, hat]), AT_add D K] at hth
  have hs2 : ∀ m, clF LP n_law13_same [RLn (AT t n (k + l)), IL a5 a6 1 (ci (AT t n (k + l)))] m = some (.P, .bool true, m) := fun m => same_refl _ _ _ _ _ _ (ci (AT t n (k + l))) (by rw [ci_len, hat]; omega) m
  rw [AT_back] at fqn
  have hs3 : ∀ m, clF LP n_law13_same [IL a7 a8 1 (ci (AT t n q)), IL a9 a10 1 (ci (AT t n q))] m = some (.P, .bool true, m) := fun m => same_refl _ _ _ _ _ _ (ci (AT t n q)) (by rw [ci_len, hat]; omega) m
  rw [AT_zero] at fn
  have hso := fun m => sorted_c a11 a12 t.length h7 m
  generalize RLn (AT t n (k + l)) = X at *
  generalize ci (AT t n (k + l)) = x1 at *
  generalize ci (AT t n k) = x2 at *
  generalize ci (AT t n l) = x3 at *
  generalize ci (AT t n q) = x4 at *
  generalize ci (List.range t.length) = x5 at *
  generalize ci (List.replicate t.length 0) = x6 at *
  generalize ci t = ct at *
  refine call_P lp_law13_WashAround rfl hpure1 (m1 := [⟨w8, true⟩, ⟨ints x2, true⟩]) ?_ rfl []
  simp only [law13_WashAround, law13_WashAround.B]
  repeat (rw [exF_seq]; try simp only [beqT, beqF, exF_region, exF_block, exF_cond, exF_ret, exF_exit, exF_skip, runL, wantL, stepL, evL, LEnv.at, putL, loadFine, loadL, cellsAt, Trk.putNew, Trk.up, Trk.touch, Trk.gives, Trk.calm, Trk.hit, opdsOf, Trk.fresh, LEnv.keep, LEnv.ofFrom, List.map_cons, List.map_nil, nbeq, nble, nblt, ofAV, ofAVs, lenL, bin_add, bin_sub, bin_mul, bin_eql, bin_neq, bin_lss, bin_leq, bin_gtr, bin_geq, natL_nat, natL_zero, natL_one, natL_two, Nat.zero_mul, List.any_cons, List.any_nil, Bool.or_false, Bool.false_or, Bool.true_or, Bool.or_true, Bool.and_true, Bool.true_and, Bool.and_false, Bool.false_and, Bool.not_true, Bool.not_false, Nat.reduceBEq, Nat.reduceEqDiff, decide_true, decide_false, cond_true, cond_false, List.filter_nil, List.filter_cons, Nat.reduceAdd, Nat.reduceLeDiff, reduceCtorEq, List.length_nil, List.length_cons, Nat.mul_one, if_true, if_false, Bool.false_eq_true, eq_self, and_true, true_and, retL, resultsL, resAllL, resOfL, List.append_nil, List.nil_append, List.cons_append, true_or, or_true, false_or, or_false, false_and, and_false, not_true_eq_false, not_false_eq_true, ne_eq, unL, trim_nil, views_pures, LV.pures, LV.pure, freeze, Nat.reduceDiv, Int.reduceEq, Int.reduceLT, Int.reduceLE, Int.natCast_zero, LV.cells, allocL, List.getElem?_cons_zero, List.getElem?_cons_succ, storeL, spliceL, List.take_zero, List.take_succ_cons, List.drop_zero, List.drop_succ_cons, List.drop_nil, List.take_nil, Nat.le_refl, Nat.reduceMul, List.set_cons_zero, List.set_cons_succ, LV.scalar, List.all_cons, List.all_nil, Nat.lt_add_one, Nat.zero_lt_one, Nat.reduceLT, Nat.lt_irrefl, fillL, List.length_append, foldIntL, kind_beq, pures_int, solids_int, plains_int, unders_int, scalars_int, hbl, htk, hm, hl2, w1, w2, r1, r2, fk, fl, w3, fkl, hri, hbk, hrl, hls, rm1, rm2, hz, hout, hsame1, hth, r3, w4, fqn, fq, fn, hs2, hs3, hso, works_c])
end Go.Am.Wash


