/-
  What functions of chapter 13 compute, 1: checks; lists that are the same; one tide and then another one.
-/
import Derived.Test.YtgogknjedpmcgaaWashL
import Derived.Test.YtgogknjedpmcgaaLm14
import Derived.Test.YtgogknjedpmcgaaWashP1
set_option linter.unusedVariables false
set_option linter.unusedSimpArgs false
set_option maxRecDepth 10000
namespace Go.Am.Wash
open Go.Am.G

abbrev ci (l : List Nat) : List Int := l.map fun x : Nat => (x : Int)
abbrev RLn (l : List Nat) : LV := RL (ci l)
theorem ci_len (l : List Nat) : (ci l).length = l.length := by simp
theorem ci_map (l : List Nat) : (ci l).map (LV.int .i64) = l.map fun y : Nat => LV.int .i64 (y : Int) := by simp
theorem ci_mem (l : List Nat) (x : Nat) : (x : Int) ∈ ci l ↔ x ∈ l := by
  simp only [List.mem_map]
  constructor
  · rintro ⟨y, hy, e⟩
    have : y = x := by omega
    exact this ▸ hy
  · intro h; exact ⟨x, h, rfl⟩
def inB (lo hi x : Int) : Bool := decide (lo ≤ x ∧ x ≤ hi)
theorem within_c (n lo hi : Int) (m : LMem) : clF LP n_wash_within [.int .i64 n, .int .i64 lo, .int .i64 hi] m = some (.P, .bool (inB lo hi n), m) := by
  refine call_P lp_wash_within rfl rfl (m1 := []) ?_ rfl m
  by_cases h : lo ≤ n
  · simp only [wash_within, wash_within.B, beqT, beqF, exF_seq, exF_region, exF_block, exF_cond, exF_ret, exF_exit, exF_skip, runL, wantL, stepL, evL, LEnv.at, putL, loadFine, loadL, cellsAt, Trk.putNew, Trk.up, Trk.touch, Trk.gives, Trk.calm, Trk.hit, opdsOf, Trk.fresh, LEnv.keep, LEnv.ofFrom, List.map_cons, List.map_nil, nbeq, nble, nblt, ofAV, ofAVs, lenL, bin_add, bin_sub, bin_mul, bin_eql, bin_neq, bin_lss, bin_leq, bin_gtr, bin_geq, natL_nat, natL_zero, natL_one, natL_two, Nat.zero_mul, List.any_cons, List.any_nil, Bool.or_false, Bool.false_or, Bool.true_or, Bool.or_true, Bool.and_true, Bool.true_and, Bool.and_false, Bool.false_and, Bool.not_true, Bool.not_false, Nat.reduceBEq, Nat.reduceEqDiff, decide_true, decide_false, cond_true, cond_false, List.filter_nil, List.filter_cons, Nat.reduceAdd, Nat.reduceLeDiff, reduceCtorEq, List.length_nil, List.length_cons, Nat.mul_one, if_true, if_false, Bool.false_eq_true, eq_self, and_true, true_and, retL, resultsL, resAllL, resOfL, List.append_nil, List.nil_append, List.cons_append, true_or, or_true, false_or, or_false, false_and, and_false, not_true_eq_false, not_false_eq_true, ne_eq, unL, trim_nil, views_pures, LV.pures, LV.pure, freeze, Nat.reduceDiv, Int.reduceEq, Int.reduceLT, Int.reduceLE, Int.natCast_zero, LV.cells, allocL, List.getElem?_cons_zero, List.getElem?_cons_succ, storeL, spliceL, List.take_zero, List.take_succ_cons, List.drop_zero, List.drop_succ_cons, List.drop_nil, List.take_nil, Nat.le_refl, Nat.reduceMul, List.set_cons_zero, List.set_cons_succ, LV.scalar, List.all_cons, List.all_nil, Nat.lt_add_one, Nat.zero_lt_one, Nat.reduceLT, Nat.lt_irrefl, fillL, List.length_append, foldIntL, kind_beq, pures_int, solids_int, plains_int, unders_int, scalars_int, h, inB]
  · simp only [wash_within, wash_within.B, beqT, beqF, exF_seq, exF_region, exF_block, exF_cond, exF_ret, exF_exit, exF_skip, runL, wantL, stepL, evL, LEnv.at, putL, loadFine, loadL, cellsAt, Trk.putNew, Trk.up, Trk.touch, Trk.gives, Trk.calm, Trk.hit, opdsOf, Trk.fresh, LEnv.keep, LEnv.ofFrom, List.map_cons, List.map_nil, nbeq, nble, nblt, ofAV, ofAVs, lenL, bin_add, bin_sub, bin_mul, bin_eql, bin_neq, bin_lss, bin_leq, bin_gtr, bin_geq, natL_nat, natL_zero, natL_one, natL_two, Nat.zero_mul, List.any_cons, List.any_nil, Bool.or_false, Bool.false_or, Bool.true_or, Bool.or_true, Bool.and_true, Bool.true_and, Bool.and_false, Bool.false_and, Bool.not_true, Bool.not_false, Nat.reduceBEq, Nat.reduceEqDiff, decide_true, decide_false, cond_true, cond_false, List.filter_nil, List.filter_cons, Nat.reduceAdd, Nat.reduceLeDiff, reduceCtorEq, List.length_nil, List.length_cons, Nat.mul_one, if_true, if_false, Bool.false_eq_true, eq_self, and_true, true_and, retL, resultsL, resAllL, resOfL, List.append_nil, List.nil_append, List.cons_append, true_or, or_true, false_or, or_false, false_and, and_false, not_true_eq_false, not_false_eq_true, ne_eq, unL, trim_nil, views_pures, LV.pures, LV.pure, freeze, Nat.reduceDiv, Int.reduceEq, Int.reduceLT, Int.reduceLE, Int.natCast_zero, LV.cells, allocL, List.getElem?_cons_zero, List.getElem?_cons_succ, storeL, spliceL, List.take_zero, List.take_succ_cons, List.drop_zero, List.drop_succ_cons, List.drop_nil, List.take_nil, Nat.le_refl, Nat.reduceMul, List.set_cons_zero, List.set_cons_succ, LV.scalar, List.all_cons, List.all_nil, Nat.lt_add_one, Nat.zero_lt_one, Nat.reduceLT, Nat.lt_irrefl, fillL, List.length_append, foldIntL, kind_beq, pures_int, solids_int, plains_int, unders_int, scalars_int, h, inB]

/-! ### Checks -/
def chkG (N : Int) : List Int → List Int → Int
  | _, [] => 0
  | pre, x :: r => if ¬ (0 ≤ x ∧ x < N) then 2 else if x ∈ pre then 6 else chkG N (pre ++ [x]) r
def chkT (t : List Int) : Int := if ¬ (1 ≤ t.length ∧ t.length ≤ 7) then 1 else chkG (t.length : Int) [] t
def mk : List Int → Nat
  | [] => 0
  | x :: r => mk r ||| 2 ^ x.toNat
theorem mk_bit (N : Int) : ∀ (l : List Int), (∀ x ∈ l, 0 ≤ x ∧ x < N) → ∀ p : Nat, (mk l).testBit p = decide ((p : Int) ∈ l)
  | [], _, p => by simp [mk]
  | x :: r, h, p => by
    have hx := h x (by simp)
    rw [mk, Nat.testBit_or, Nat.testBit_two_pow, mk_bit N r fun y hy => h y (by simp [hy]), Bool.eq_iff_iff]
    simp only [Bool.or_eq_true, decide_eq_true_eq, List.mem_cons]
    constructor
    · rintro (h | h)
      · exact .inr h
      · left; omega
    · rintro (h | h)
      · right; omega
      · exact .inl h
theorem mk_append (l : List Int) (x : Int) : mk (l ++ [x]) = mk l ||| 2 ^ x.toNat := by
  induction l with
  | nil => simp [mk]
  | cons a r ih => rw [List.cons_append, mk, mk, ih, Nat.or_assoc, Nat.or_assoc, Nat.or_comm (2 ^ x.toNat)]
theorem mk_lt : ∀ (l : List Int), (∀ x ∈ l, 0 ≤ x ∧ x < 7) → mk l < 128
  | [], _ => by simp [mk]
  | x :: r, h => by
    have hx := h x (by simp)
    refine Nat.or_lt_two_pow (n := 7) (mk_lt r fun y hy => h y (by simp [hy])) ?_
    exact Nat.pow_lt_pow_right (by omega) (by omega)
theorem check_loop (nl ex : Bool) (sz : Nat) (t : List Int) (N : Nat) (hN : N ≤ 7) (hN0 : 0 < N) (hl : t.length < 1000000) (n : Nat) : ∀ k, k + n = t.length → (∀ x ∈ t.take k, 0 ≤ x ∧ x < (N : Int)) →
    exF LP wash_Check.L0 [(3, .int .i64 (N : Int)), (4, .int .i64 (mk (t.take k) : Int)), (12, IL nl ex sz t), (13, .int .i64 (t.length : Int)), (14, .int .i64 (k : Int))] [] =
      if chkG (N : Int) (t.take k) (t.drop k) = 0 then some (.exit 0, [], []) else some (.ret, [(2, .int .i64 (chkG (N : Int) (t.take k) (t.drop k)))], []) := by
  have hw : IntKind.i64.wrap ((N : Int) - 1) = (N : Int) - 1 := wrap_in (by omega)
  induction n with
  | zero =>
    intro k hk _
    rw [wash_Check.L0_eq]
    simp only [wash_Check.B0, beqT, beqF, exF_seq, exF_region, exF_block, exF_cond, exF_ret, exF_exit, exF_skip, runL, wantL, stepL, evL, LEnv.at, putL, loadFine, loadL, cellsAt, Trk.putNew, Trk.up, Trk.touch, Trk.gives, Trk.calm, Trk.hit, opdsOf, Trk.fresh, LEnv.keep, LEnv.ofFrom, List.map_cons, List.map_nil, nbeq, nble, nblt, ofAV, ofAVs, lenL, bin_add, bin_sub, bin_mul, bin_eql, bin_neq, bin_lss, bin_leq, bin_gtr, bin_geq, natL_nat, natL_zero, natL_one, natL_two, Nat.zero_mul, List.any_cons, List.any_nil, Bool.or_false, Bool.false_or, Bool.true_or, Bool.or_true, Bool.and_true, Bool.true_and, Bool.and_false, Bool.false_and, Bool.not_true, Bool.not_false, Nat.reduceBEq, Nat.reduceEqDiff, decide_true, decide_false, cond_true, cond_false, List.filter_nil, List.filter_cons, Nat.reduceAdd, Nat.reduceLeDiff, reduceCtorEq, List.length_nil, List.length_cons, Nat.mul_one, if_true, if_false, Bool.false_eq_true, eq_self, and_true, true_and, retL, resultsL, resAllL, resOfL, List.append_nil, List.nil_append, List.cons_append, true_or, or_true, false_or, or_false, false_and, and_false, not_true_eq_false, not_false_eq_true, ne_eq, unL, trim_nil, views_pures, LV.pures, LV.pure, freeze, Nat.reduceDiv, Int.reduceEq, Int.reduceLT, Int.reduceLE, Int.natCast_zero, LV.cells, allocL, List.getElem?_cons_zero, List.getElem?_cons_succ, storeL, spliceL, List.take_zero, List.take_succ_cons, List.drop_zero, List.drop_succ_cons, List.drop_nil, List.take_nil, Nat.le_refl, Nat.reduceMul, List.set_cons_zero, List.set_cons_succ, LV.scalar, List.all_cons, List.all_nil, Nat.lt_add_one, Nat.zero_lt_one, Nat.reduceLT, Nat.lt_irrefl, fillL, List.length_append, foldIntL, kind_beq, pures_int, solids_int, plains_int, unders_int, scalars_int, show ¬ ((k : Int) < (t.length : Int)) by omega]
    simp [List.drop_eq_nil_of_le (show t.length ≤ k by omega), chkG]
  | succ n ih =>
    intro k hk hpre
    have h2 : k < t.length := by omega
    have htk : t.take (k + 1) = t.take k ++ [t[k]] := by rw [List.take_add_one, List.getElem?_eq_getElem h2]; rfl
    have hpre7 : ∀ x ∈ t.take k, 0 ≤ x ∧ x < 7 := fun x hx => by have := hpre x hx; omega
    have hmlt := mk_lt _ hpre7
    have e0 : chkG (N : Int) (t.take k) (t[k] :: t.drop (k + 1)) = if ¬ (0 ≤ t[k] ∧ t[k] < (N : Int)) then 2 else if t[k] ∈ t.take k then 6 else chkG (N : Int) (t.take k ++ [t[k]]) (t.drop (k + 1)) := by rw [chkG]
    rw [wash_Check.L0_eq, List.drop_eq_getElem_cons h2, e0]
    clear e0
    by_cases h3 : 0 ≤ t[k] ∧ t[k] < (N : Int)
    · have hi : inB 0 ((N : Int) - 1) t[k] = true := by simp [inB]; omega
      simp only [if_neg (show ¬ ¬ (0 ≤ t[k] ∧ t[k] < (N : Int)) from fun c => c h3)]
      obtain ⟨p, hp⟩ := Int.eq_ofNat_of_zero_le h3.1
      have hb := mk_bit N (t.take k) hpre p
      rw [Nat.testBit_eq_decide_div_mod_eq, decide_eq_decide, ← hp] at hb
      have hd : mk (t.take k) / 2 ^ p < 4294967296 := Nat.lt_of_le_of_lt (Nat.div_le_self _ _) (by omega)
      have hp7 : p < 7 := by omega
      by_cases h4 : t[k] ∈ t.take k
      · have hb1 : ((mk (t.take k) / 2 ^ p % 2 : Nat) : Int) = 1 := by have := hb.2 h4; omega
        simp only [if_pos h4]
        rw [hp] at hi
        simp only [wash_Check.B0, beqT, beqF, exF_seq, exF_region, exF_block, exF_cond, exF_ret, exF_exit, exF_skip, runL, wantL, stepL, evL, LEnv.at, putL, loadFine, loadL, cellsAt, Trk.putNew, Trk.up, Trk.touch, Trk.gives, Trk.calm, Trk.hit, opdsOf, Trk.fresh, LEnv.keep, LEnv.ofFrom, List.map_cons, List.map_nil, nbeq, nble, nblt, ofAV, ofAVs, lenL, bin_add, bin_sub, bin_mul, bin_eql, bin_neq, bin_lss, bin_leq, bin_gtr, bin_geq, natL_nat, natL_zero, natL_one, natL_two, Nat.zero_mul, List.any_cons, List.any_nil, Bool.or_false, Bool.false_or, Bool.true_or, Bool.or_true, Bool.and_true, Bool.true_and, Bool.and_false, Bool.false_and, Bool.not_true, Bool.not_false, Nat.reduceBEq, Nat.reduceEqDiff, decide_true, decide_false, cond_true, cond_false, List.filter_nil, List.filter_cons, Nat.reduceAdd, Nat.reduceLeDiff, reduceCtorEq, List.length_nil, List.length_cons, Nat.mul_one, if_true, if_false, Bool.false_eq_true, eq_self, and_true, true_and, retL, resultsL, resAllL, resOfL, List.append_nil, List.nil_append, List.cons_append, true_or, or_true, false_or, or_false, false_and, and_false, not_true_eq_false, not_false_eq_true, ne_eq, unL, trim_nil, views_pures, LV.pures, LV.pure, freeze, Nat.reduceDiv, Int.reduceEq, Int.reduceLT, Int.reduceLE, Int.natCast_zero, LV.cells, allocL, List.getElem?_cons_zero, List.getElem?_cons_succ, storeL, spliceL, List.take_zero, List.take_succ_cons, List.drop_zero, List.drop_succ_cons, List.drop_nil, List.take_nil, Nat.le_refl, Nat.reduceMul, List.set_cons_zero, List.set_cons_succ, LV.scalar, List.all_cons, List.all_nil, Nat.lt_add_one, Nat.zero_lt_one, Nat.reduceLT, Nat.lt_irrefl, fillL, List.length_append, foldIntL, kind_beq, pures_int, solids_int, plains_int, unders_int, scalars_int, show ((k : Int) < (t.length : Int)) by omega, h2, int_at _ _ _ h2, hp, hw, within_c, hi, sshr (a := mk (t.take k)) (show p < 64 by omega), sand1 hd, hb1]
      · have hb1 : ¬ ((mk (t.take k) / 2 ^ p % 2 : Nat) : Int) = 1 := by
          intro c; exact h4 (hb.1 (by omega))
        simp only [if_neg h4]
        have ih := ih (k + 1) (by omega) (by
          rw [htk]
          intro x hx
          rcases List.mem_append.1 hx with hx | hx
          · exact hpre x hx
          · simp at hx; subst hx; exact h3)
        have hpp : 2 ^ p < 4294967296 := Nat.lt_of_lt_of_le (Nat.pow_lt_pow_right (by omega) (show p < 32 by omega)) (by omega)
        have o := sor (show mk (t.take k) < 4294967296 by omega) hpp
        have hmk : mk (t.take (k + 1)) = mk (t.take k) ||| 2 ^ p := by rw [htk, mk_append, hp, Int.toNat_natCast]
        rw [hmk, htk] at ih
        rw [hp] at hi
        simp only [wash_Check.B0, beqT, beqF, exF_seq, exF_region, exF_block, exF_cond, exF_ret, exF_exit, exF_skip, runL, wantL, stepL, evL, LEnv.at, putL, loadFine, loadL, cellsAt, Trk.putNew, Trk.up, Trk.touch, Trk.gives, Trk.calm, Trk.hit, opdsOf, Trk.fresh, LEnv.keep, LEnv.ofFrom, List.map_cons, List.map_nil, nbeq, nble, nblt, ofAV, ofAVs, lenL, bin_add, bin_sub, bin_mul, bin_eql, bin_neq, bin_lss, bin_leq, bin_gtr, bin_geq, natL_nat, natL_zero, natL_one, natL_two, Nat.zero_mul, List.any_cons, List.any_nil, Bool.or_false, Bool.false_or, Bool.true_or, Bool.or_true, Bool.and_true, Bool.true_and, Bool.and_false, Bool.false_and, Bool.not_true, Bool.not_false, Nat.reduceBEq, Nat.reduceEqDiff, decide_true, decide_false, cond_true, cond_false, List.filter_nil, List.filter_cons, Nat.reduceAdd, Nat.reduceLeDiff, reduceCtorEq, List.length_nil, List.length_cons, Nat.mul_one, if_true, if_false, Bool.false_eq_true, eq_self, and_true, true_and, retL, resultsL, resAllL, resOfL, List.append_nil, List.nil_append, List.cons_append, true_or, or_true, false_or, or_false, false_and, and_false, not_true_eq_false, not_false_eq_true, ne_eq, unL, trim_nil, views_pures, LV.pures, LV.pure, freeze, Nat.reduceDiv, Int.reduceEq, Int.reduceLT, Int.reduceLE, Int.natCast_zero, LV.cells, allocL, List.getElem?_cons_zero, List.getElem?_cons_succ, storeL, spliceL, List.take_zero, List.take_succ_cons, List.drop_zero, List.drop_succ_cons, List.drop_nil, List.take_nil, Nat.le_refl, Nat.reduceMul, List.set_cons_zero, List.set_cons_succ, LV.scalar, List.all_cons, List.all_nil, Nat.lt_add_one, Nat.zero_lt_one, Nat.reduceLT, Nat.lt_irrefl, fillL, List.length_append, foldIntL, kind_beq, pures_int, solids_int, plains_int, unders_int, scalars_int, show ((k : Int) < (t.length : Int)) by omega, h2, int_at _ _ _ h2, hp, hw, within_c, hi, sshr (a := mk (t.take k)) (show p < 64 by omega), sand1 hd, hb1, sshl (show p < 32 by omega), o, wrap_succ (show k + 1 < 9223372036854775808 by omega)]
        rw [hp] at ih
        exact ih
    · have hi : inB 0 ((N : Int) - 1) t[k] = false := by simp only [inB, decide_eq_false_iff_not]; omega
      simp only [if_pos (show ¬ (0 ≤ t[k] ∧ t[k] < (N : Int)) from h3)]
      simp only [wash_Check.B0, beqT, beqF, exF_seq, exF_region, exF_block, exF_cond, exF_ret, exF_exit, exF_skip, runL, wantL, stepL, evL, LEnv.at, putL, loadFine, loadL, cellsAt, Trk.putNew, Trk.up, Trk.touch, Trk.gives, Trk.calm, Trk.hit, opdsOf, Trk.fresh, LEnv.keep, LEnv.ofFrom, List.map_cons, List.map_nil, nbeq, nble, nblt, ofAV, ofAVs, lenL, bin_add, bin_sub, bin_mul, bin_eql, bin_neq, bin_lss, bin_leq, bin_gtr, bin_geq, natL_nat, natL_zero, natL_one, natL_two, Nat.zero_mul, List.any_cons, List.any_nil, Bool.or_false, Bool.false_or, Bool.true_or, Bool.or_true, Bool.and_true, Bool.true_and, Bool.and_false, Bool.false_and, Bool.not_true, Bool.not_false, Nat.reduceBEq, Nat.reduceEqDiff, decide_true, decide_false, cond_true, cond_false, List.filter_nil, List.filter_cons, Nat.reduceAdd, Nat.reduceLeDiff, reduceCtorEq, List.length_nil, List.length_cons, Nat.mul_one, if_true, if_false, Bool.false_eq_true, eq_self, and_true, true_and, retL, resultsL, resAllL, resOfL, List.append_nil, List.nil_append, List.cons_append, true_or, or_true, false_or, or_false, false_and, and_false, not_true_eq_false, not_false_eq_true, ne_eq, unL, trim_nil, views_pures, LV.pures, LV.pure, freeze, Nat.reduceDiv, Int.reduceEq, Int.reduceLT, Int.reduceLE, Int.natCast_zero, LV.cells, allocL, List.getElem?_cons_zero, List.getElem?_cons_succ, storeL, spliceL, List.take_zero, List.take_succ_cons, List.drop_zero, List.drop_succ_cons, List.drop_nil, List.take_nil, Nat.le_refl, Nat.reduceMul, List.set_cons_zero, List.set_cons_succ, LV.scalar, List.all_cons, List.all_nil, Nat.lt_add_one, Nat.zero_lt_one, Nat.reduceLT, Nat.lt_irrefl, fillL, List.length_append, foldIntL, kind_beq, pures_int, solids_int, plains_int, unders_int, scalars_int, show ((k : Int) < (t.length : Int)) by omega, h2, int_at _ _ _ h2, hw, within_c, hi]
theorem check_c (nl ex : Bool) (sz : Nat) (t : List Int) (hl : t.length < 1000000) (m : LMem) : clF LP n_wash_Check [IL nl ex sz t] m = some (.P, .int .i64 (chkT t), m) := by
  refine call_P lp_wash_Check rfl (by simp [LV.pures, LV.pure]) (m1 := []) ?_ rfl m
  unfold chkT
  by_cases h : 1 ≤ t.length ∧ t.length ≤ 7
  · have hi : inB 1 7 (t.length : Int) = true := by simp [inB]; omega
    have h2 := check_loop nl ex sz t t.length h.2 (by omega) hl t.length 0 (by omega) (by simp)
    simp only [List.take_zero, List.drop_zero, mk, Int.natCast_zero] at h2
    rw [if_neg (fun c => c h)]
    by_cases hc : chkG (t.length : Int) [] t = 0
    · rw [if_pos hc] at h2
      simp only [wash_Check, wash_Check.B, beqT, beqF, exF_seq, exF_region, exF_block, exF_cond, exF_ret, exF_exit, exF_skip, runL, wantL, stepL, evL, LEnv.at, putL, loadFine, loadL, cellsAt, Trk.putNew, Trk.up, Trk.touch, Trk.gives, Trk.calm, Trk.hit, opdsOf, Trk.fresh, LEnv.keep, LEnv.ofFrom, List.map_cons, List.map_nil, nbeq, nble, nblt, ofAV, ofAVs, lenL, bin_add, bin_sub, bin_mul, bin_eql, bin_neq, bin_lss, bin_leq, bin_gtr, bin_geq, natL_nat, natL_zero, natL_one, natL_two, Nat.zero_mul, List.any_cons, List.any_nil, Bool.or_false, Bool.false_or, Bool.true_or, Bool.or_true, Bool.and_true, Bool.true_and, Bool.and_false, Bool.false_and, Bool.not_true, Bool.not_false, Nat.reduceBEq, Nat.reduceEqDiff, decide_true, decide_false, cond_true, cond_false, List.filter_nil, List.filter_cons, Nat.reduceAdd, Nat.reduceLeDiff, reduceCtorEq, List.length_nil, List.length_cons, Nat.mul_one, if_true, if_false, Bool.false_eq_true, eq_self, and_true, true_and, retL, resultsL, resAllL, resOfL, List.append_nil, List.nil_append, List.cons_append, true_or, or_true, false_or, or_false, false_and, and_false, not_true_eq_false, not_false_eq_true, ne_eq, unL, trim_nil, views_pures, LV.pures, LV.pure, freeze, Nat.reduceDiv, Int.reduceEq, Int.reduceLT, Int.reduceLE, Int.natCast_zero, LV.cells, allocL, List.getElem?_cons_zero, List.getElem?_cons_succ, storeL, spliceL, List.take_zero, List.take_succ_cons, List.drop_zero, List.drop_succ_cons, List.drop_nil, List.take_nil, Nat.le_refl, Nat.reduceMul, List.set_cons_zero, List.set_cons_succ, LV.scalar, List.all_cons, List.all_nil, Nat.lt_add_one, Nat.zero_lt_one, Nat.reduceLT, Nat.lt_irrefl, fillL, List.length_append, foldIntL, kind_beq, pures_int, solids_int, plains_int, unders_int, scalars_int, within_c, hi, h2, hc]
    · rw [if_neg hc] at h2
      simp only [wash_Check, wash_Check.B, beqT, beqF, exF_seq, exF_region, exF_block, exF_cond, exF_ret, exF_exit, exF_skip, runL, wantL, stepL, evL, LEnv.at, putL, loadFine, loadL, cellsAt, Trk.putNew, Trk.up, Trk.touch, Trk.gives, Trk.calm, Trk.hit, opdsOf, Trk.fresh, LEnv.keep, LEnv.ofFrom, List.map_cons, List.map_nil, nbeq, nble, nblt, ofAV, ofAVs, lenL, bin_add, bin_sub, bin_mul, bin_eql, bin_neq, bin_lss, bin_leq, bin_gtr, bin_geq, natL_nat, natL_zero, natL_one, natL_two, Nat.zero_mul, List.any_cons, List.any_nil, Bool.or_false, Bool.false_or, Bool.true_or, Bool.or_true, Bool.and_true, Bool.true_and, Bool.and_false, Bool.false_and, Bool.not_true, Bool.not_false, Nat.reduceBEq, Nat.reduceEqDiff, decide_true, decide_false, cond_true, cond_false, List.filter_nil, List.filter_cons, Nat.reduceAdd, Nat.reduceLeDiff, reduceCtorEq, List.length_nil, List.length_cons, Nat.mul_one, if_true, if_false, Bool.false_eq_true, eq_self, and_true, true_and, retL, resultsL, resAllL, resOfL, List.append_nil, List.nil_append, List.cons_append, true_or, or_true, false_or, or_false, false_and, and_false, not_true_eq_false, not_false_eq_true, ne_eq, unL, trim_nil, views_pures, LV.pures, LV.pure, freeze, Nat.reduceDiv, Int.reduceEq, Int.reduceLT, Int.reduceLE, Int.natCast_zero, LV.cells, allocL, List.getElem?_cons_zero, List.getElem?_cons_succ, storeL, spliceL, List.take_zero, List.take_succ_cons, List.drop_zero, List.drop_succ_cons, List.drop_nil, List.take_nil, Nat.le_refl, Nat.reduceMul, List.set_cons_zero, List.set_cons_succ, LV.scalar, List.all_cons, List.all_nil, Nat.lt_add_one, Nat.zero_lt_one, Nat.reduceLT, Nat.lt_irrefl, fillL, List.length_append, foldIntL, kind_beq, pures_int, solids_int, plains_int, unders_int, scalars_int, within_c, hi, h2]
  · have hi : inB 1 7 (t.length : Int) = false := by simp only [inB, decide_eq_false_iff_not]; omega
    rw [if_pos h]
    simp only [wash_Check, wash_Check.B, beqT, beqF, exF_seq, exF_region, exF_block, exF_cond, exF_ret, exF_exit, exF_skip, runL, wantL, stepL, evL, LEnv.at, putL, loadFine, loadL, cellsAt, Trk.putNew, Trk.up, Trk.touch, Trk.gives, Trk.calm, Trk.hit, opdsOf, Trk.fresh, LEnv.keep, LEnv.ofFrom, List.map_cons, List.map_nil, nbeq, nble, nblt, ofAV, ofAVs, lenL, bin_add, bin_sub, bin_mul, bin_eql, bin_neq, bin_lss, bin_leq, bin_gtr, bin_geq, natL_nat, natL_zero, natL_one, natL_two, Nat.zero_mul, List.any_cons, List.any_nil, Bool.or_false, Bool.false_or, Bool.true_or, Bool.or_true, Bool.and_true, Bool.true_and, Bool.and_false, Bool.false_and, Bool.not_true, Bool.not_false, Nat.reduceBEq, Nat.reduceEqDiff, decide_true, decide_false, cond_true, cond_false, List.filter_nil, List.filter_cons, Nat.reduceAdd, Nat.reduceLeDiff, reduceCtorEq, List.length_nil, List.length_cons, Nat.mul_one, if_true, if_false, Bool.false_eq_true, eq_self, and_true, true_and, retL, resultsL, resAllL, resOfL, List.append_nil, List.nil_append, List.cons_append, true_or, or_true, false_or, or_false, false_and, and_false, not_true_eq_false, not_false_eq_true, ne_eq, unL, trim_nil, views_pures, LV.pures, LV.pure, freeze, Nat.reduceDiv, Int.reduceEq, Int.reduceLT, Int.reduceLE, Int.natCast_zero, LV.cells, allocL, List.getElem?_cons_zero, List.getElem?_cons_succ, storeL, spliceL, List.take_zero, List.take_succ_cons, List.drop_zero, List.drop_succ_cons, List.drop_nil, List.take_nil, Nat.le_refl, Nat.reduceMul, List.set_cons_zero, List.set_cons_succ, LV.scalar, List.all_cons, List.all_nil, Nat.lt_add_one, Nat.zero_lt_one, Nat.reduceLT, Nat.lt_irrefl, fillL, List.length_append, foldIntL, kind_beq, pures_int, solids_int, plains_int, unders_int, scalars_int, within_c, hi]
theorem chkG_ok (N : Nat) : ∀ (t pre : List Int), chkG (N : Int) pre t = 0 → ∃ q : List Nat, t = ci q ∧ q.Nodup ∧ (∀ x ∈ q, x < N) ∧ ∀ x ∈ q, ¬ (x : Int) ∈ pre
  | [], pre, _ => ⟨[], rfl, List.nodup_nil, by simp, by simp⟩
  | x :: r, pre, h => by
    rw [chkG] at h
    split at h
    · omega
    · rename_i h1
      have h1 : 0 ≤ x ∧ x < (N : Int) := Classical.byContradiction h1
      split at h
      · omega
      · rename_i h2
        obtain ⟨q, rfl, h3, h4, h5⟩ := chkG_ok N r (pre ++ [x]) h
        obtain ⟨y, rfl⟩ := Int.eq_ofNat_of_zero_le h1.1
        refine ⟨y :: q, rfl, List.nodup_cons.2 ⟨fun c => h5 y c (by simp), h3⟩, ?_, ?_⟩
        · intro z hz
          rcases List.mem_cons.1 hz with rfl | hz
          · omega
          · exact h4 z hz
        · intro z hz
          rcases List.mem_cons.1 hz with rfl | hz
          · exact h2
          · exact fun c => h5 z hz (by simp [c])
/-- What is accepted is a tide. -/
theorem tide_of {t : List Int} (h : chkT t = 0) : ∃ q : List Nat, t = ci q ∧ Tide q.length q ∧ 1 ≤ q.length ∧ q.length ≤ 7 := by
  unfold chkT at h
  split at h
  · omega
  · rename_i h1
    have h1 : 1 ≤ t.length ∧ t.length ≤ 7 := Classical.byContradiction h1
    obtain ⟨q, rfl, h2, h3, _⟩ := chkG_ok t.length t [] h
    rw [ci_len] at h1 h3
    exact ⟨q, rfl, ⟨rfl, h2, h3⟩, h1.1, h1.2⟩
end Go.Am.Wash

