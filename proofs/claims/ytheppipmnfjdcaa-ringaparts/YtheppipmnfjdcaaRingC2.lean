/-
  What functions of chapter 04 compute, 2: places, what an order contradicts.
-/
import Derived.Test.YtheppipmnfjdcaaRingC1
set_option linter.unusedVariables false
set_option linter.unusedSimpArgs false
set_option maxRecDepth 10000
namespace Go.Am.Ring
open Go.Am.G

/-! ### Places -/
def plcG (x : Int) : Nat → List Int → Int
  | _, [] => -1
  | k, a :: r => if a = x then (k : Int) else plcG x (k + 1) r
def plc (l : List Int) (x : Int) : Int := plcG x 0 l
theorem place_loop (nl ex : Bool) (sz : Nat) (l : List Int) (x : Int) (hl : l.length < 1000000) (n : Nat) : ∀ k, k + n = l.length →
    exF LP ref04_place.L0 [(0, IL nl ex sz l), (1, .int .i64 x), (5, .int .i64 (k : Int))] [] = if plcG x k (l.drop k) = -1 then some (.exit 0, [], []) else some (.ret, [(4, .int .i64 (plcG x k (l.drop k)))], []) := by
  induction n with
  | zero =>
    intro k hk
    rw [ref04_place.L0_eq]
    simp only [ref04_place.B0, exF_seq, exF_region, exF_cond, exF_exit, runL, wantL, stepL, evL, LEnv.at, putL, loadFine, LEnv.keep, List.map_cons, List.map_nil, nbeq, lenL, bin_lss, Nat.reduceEqDiff, decide_true, decide_false, cond_true, cond_false, reduceCtorEq, if_true, eq_self, show ¬ ((k : Int) < (l.length : Int)) by omega, List.drop_eq_nil_of_le (show l.length ≤ k by omega), plcG]
  | succ n ih =>
    intro k hk
    have h2 : k < l.length := by omega
    rw [ref04_place.L0_eq, List.drop_eq_getElem_cons h2, plcG]
    by_cases c : l[k] = x
    · rw [if_pos c, if_neg (by omega)]
      simp only [ref04_place.B0, exF_seq, exF_region, exF_block, exF_cond, exF_ret, exF_skip, runL, wantL, stepL, evL, LEnv.at, putL, loadFine, loadL, cellsAt, Trk.putNew, Trk.up, Trk.touch, Trk.gives, Trk.calm, opdsOf, Trk.fresh, LEnv.keep, List.map_cons, List.map_nil, nbeq, nble, nblt, lenL, bin_eql, bin_lss, natL_nat, List.any_cons, List.any_nil, Bool.or_false, Bool.or_true, Bool.and_true, Bool.false_and, Bool.not_true, Bool.not_false, Nat.reduceEqDiff, decide_true, decide_false, cond_true, cond_false, List.filter_nil, Nat.reduceAdd, Nat.reduceLeDiff, reduceCtorEq, List.length_nil, Nat.mul_one, eq_self, show ((k : Int) < (l.length : Int)) by omega, h2, int_at _ _ _ h2, c]
    · rw [if_neg c]
      simp only [ref04_place.B0, exF_seq, exF_region, exF_block, exF_cond, exF_skip, runL, wantL, stepL, evL, evC, LEnv.at, putL, loadFine, loadL, cellsAt, Trk.putNew, Trk.up, Trk.touch, Trk.gives, Trk.calm, opdsOf, Trk.fresh, LEnv.keep, List.map_cons, List.map_nil, nbeq, nble, nblt, lenL, bin_add, bin_eql, bin_lss, natL_nat, List.any_cons, List.any_nil, Bool.or_false, Bool.or_true, Bool.and_true, Bool.false_and, Bool.not_true, Bool.not_false, Nat.reduceEqDiff, decide_true, decide_false, cond_true, cond_false, List.filter_nil, Nat.reduceAdd, Nat.reduceLeDiff, reduceCtorEq, List.length_nil, Nat.mul_one, eq_self, show ((k : Int) < (l.length : Int)) by omega, h2, int_at _ _ _ h2, c, wrap_succ (show k + 1 < 9223372036854775808 by omega), ih (k + 1) (by omega)]
theorem place_c (nl ex : Bool) (sz : Nat) (l : List Int) (x : Int) (hl : l.length < 1000000) (m : LMem) : clF LP n_ref04_place [IL nl ex sz l, .int .i64 x] m = some (.P, .int .i64 (plc l x), m) := by
  refine call_P lp_ref04_place rfl (by simp [LV.pures, LV.pure]) (m1 := []) ?_ rfl m
  have h := place_loop nl ex sz l x hl l.length 0 (by omega)
  simp only [Int.natCast_zero, List.drop_zero] at h
  unfold plc
  by_cases c : plcG x 0 l = -1
  · rw [if_pos c] at h
    simp only [ref04_place, ref04_place.B, exF_seq, exF_region, exF_block, exF_ret, runL, wantL, stepL, evL, evC, LEnv.at, putL, loadFine, LEnv.keep, LEnv.ofFrom, List.map_cons, List.map_nil, nbeq, Nat.reduceEqDiff, decide_true, decide_false, cond_true, cond_false, Nat.reduceAdd, reduceCtorEq, eq_self, retL, resultsL, resAllL, resOfL, h, c]
  · rw [if_neg c] at h
    simp only [ref04_place, ref04_place.B, exF_seq, exF_region, exF_block, runL, wantL, stepL, evL, evC, LEnv.at, putL, loadFine, LEnv.keep, LEnv.ofFrom, List.map_cons, List.map_nil, nbeq, Nat.reduceEqDiff, decide_true, decide_false, cond_true, cond_false, Nat.reduceAdd, reduceCtorEq, eq_self, retL, resultsL, resAllL, resOfL, h]
theorem plcG_lt (x : Int) : ∀ (l : List Int) (k : Nat), -1 ≤ plcG x k l ∧ plcG x k l < (k : Int) + l.length
  | [], k => by simp [plcG]; omega
  | a :: r, k => by
    have := plcG_lt x r (k + 1)
    rw [plcG, List.length_cons]
    split <;> omega
theorem plcG_mem (x : Int) : ∀ (l : List Int) (k : Nat), (0 ≤ plcG x k l ↔ x ∈ l)
  | [], k => by simp [plcG]
  | a :: r, k => by
    have := plcG_mem x r (k + 1)
    rw [plcG, List.mem_cons]
    split
    · rename_i h; subst h; simp
    · rename_i h
      rw [this]
      constructor
      · exact .inr
      · rintro (h' | h')
        · exact absurd h'.symm h
        · exact h'
theorem plc_mem (l : List Int) (x : Int) : 0 ≤ plc l x ↔ x ∈ l := plcG_mem x l 0
theorem plcG_snoc (x y : Int) : ∀ (l : List Int) (k : Nat), plcG x k (l ++ [y]) = if x ∈ l then plcG x k l else if y = x then ((k + l.length : Nat) : Int) else -1
  | [], k => by simp [plcG]
  | a :: r, k => by
    rw [List.cons_append, plcG, plcG_snoc x y r (k + 1), plcG]
    by_cases c : a = x
    · subst c; simp
    · have : x ∈ a :: r ↔ x ∈ r := by simp [Ne.symm c]
      simp only [if_neg c, this, List.length_cons]
      split
      · rfl
      · split
        · congr 1; omega
        · rfl

/-! ### What an order contradicts -/
def agnF (o : List Int) : Nat → List (Int × Int) → List Int
  | _, [] => []
  | k, p :: r => if plc o p.2 < plc o p.1 then (k : Int) :: agnF o (k + 1) r else agnF o (k + 1) r
def agn (l : List (Int × Int)) (o : List Int) : List Int := agnF o 0 l
/-! ### The reference's Against -/
def chkO (N : Int) : List Int → List Int → Int
  | _, [] => 0
  | pre, x :: r => if 0 ≤ x ∧ x < N then (if x ∈ pre then 6 else chkO N (pre ++ [x]) r) else 2
def againstV (N : Int) (l : List (Int × Int)) (o : List Int) : List Int × Int :=
  if chkF N l = 0 then (if (o.length : Int) = N then (if chkO N [] o = 0 then (agn l o, 0) else ([], chkO N [] o)) else ([], 5)) else ([], chkF N l)
theorem chkF_ok {N : Int} {l : List (Int × Int)} (h : chkF N l = 0) : (1 ≤ N ∧ N ≤ 6) ∧ l.length ≤ 12 ∧ chkP N l = 0 := by
  unfold chkF at h
  split at h
  · rename_i h1
    split at h
    · rename_i h2; exact ⟨h1, h2, h⟩
    · omega
  · omega
end Go.Am.Ring

