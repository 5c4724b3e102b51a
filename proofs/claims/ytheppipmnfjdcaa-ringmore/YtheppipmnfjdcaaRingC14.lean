import Derived.Test.YtheppipmnfjdcaaRingC13
/-
  What functions of chapter 04 compute, 14: finds turned round.
-/
set_option linter.unusedVariables false
set_option linter.unusedSimpArgs false
set_option maxRecDepth 10000
namespace Go.Am.Ring
open Go.Am.G

theorem clone2_c (ex : Bool) (l : List (Int × Int)) (hl : l.length < 1000) (hne : l ≠ []) (m : LMem) : clF LP n_slices_Clone_2_int_2_int [FL false ex 2 l] m = some (.O, .sl m.length 0 l.length l.length 2 2 (l.length * 2), m ++ [⟨pcI l, true⟩]) := by
  have h0 : ¬ l.length = 0 := by simpa using hne
  have hr1 : l.length * 16 ≤ roomMost := by unfold roomMost; omega
  have hr2 : l.length ≤ roomMost := by unfold roomMost; omega
  have hsc : (pcI l).all LV.scalar = true := by
    clear hl hne h0 hr1 hr2
    induction l with
    | nil => rfl
    | cons a r ih => exact ih
  have hpl := pcI_len l
  have hshift : ∀ n, LV.shifts n (pcI l) = pcI l := by
    intro n
    rw [pcI]
    clear hl hne h0 hr1 hr2 hsc hpl
    induction l with
    | nil => rfl
    | cons a r ih => rw [List.flatMap_cons]; simp only [pc, List.cons_append, List.nil_append, LV.shifts, LV.shift, ih]
  have hsolid : LV.solids (pcI l) = true := by
    rw [pcI]
    clear hl hne h0 hr1 hr2 hsc hpl hshift
    induction l with
    | nil => rfl
    | cons a r ih => rw [List.flatMap_cons]; simp only [pc, List.cons_append, List.nil_append, LV.solids, LV.solid, ih, Bool.true_and]
  rw [clF_eq, lp_slices_Clone_2_int_2_int]
  simp only [callMode, slices_Clone_2_int_2_int, views_pures m [FL false ex 2 l] (by simp [LV.pures, LV.pure])]
  simp only [slices_Clone_2_int_2_int.B, exF_seq, exF_region, exF_cond, exF_ret, exF_skip, runL, wantL, stepL, evL, evC, LEnv.at, putL, loadFine, LEnv.keep, LEnv.ofFrom, List.map_cons, List.map_nil, nbeq, nble, ofAVs, Nat.zero_mul, Bool.or_false, Bool.or_true, Bool.and_true, Nat.reduceEqDiff, decide_true, decide_false, cond_true, cond_false, reduceCtorEq, List.length_nil, eq_self, retL, resultsL, resAllL, resOfL, List.nil_append, freeze, Nat.reduceDiv, List.take_nil, List.all_cons, List.all_nil, fillL, nilOf, eqsL, Bool.xor_false, LV.shift, newOnly, LV.solid, freeze, appendL, contents, views, viewL, h0, hr1, hr2, hsc, newSl, Nat.zero_add, hshift, hsolid]
theorem clone20_c (nl ex : Bool) (sz : Nat) (m : LMem) : clF LP n_slices_Clone_2_int_2_int [.lst nl ex sz 0 []] m = some (.O, .lst nl true 0 0 [], m) := by
  rw [clF_eq, lp_slices_Clone_2_int_2_int]
  simp only [callMode, slices_Clone_2_int_2_int, views_pures m [.lst nl ex sz 0 []] (by simp [LV.pures, LV.pure])]
  cases nl with
  | true => simp only [slices_Clone_2_int_2_int.B, exF_seq, exF_region, exF_cond, exF_ret, runL, wantL, stepL, evL, evC, LEnv.at, putL, loadFine, LEnv.keep, LEnv.ofFrom, List.map_cons, List.map_nil, nbeq, Bool.and_true, Bool.not_false, Nat.reduceEqDiff, decide_true, decide_false, cond_true, cond_false, reduceCtorEq, eq_self, retL, resultsL, resAllL, resOfL, List.append_nil, freeze, List.all_nil, nilOf, eqsL, Bool.xor_true, LV.shift, newOnly, LV.solid, freeze]
  | false => simp only [slices_Clone_2_int_2_int.B, exF_seq, exF_region, exF_cond, exF_ret, exF_skip, runL, wantL, stepL, evL, evC, LEnv.at, putL, loadFine, LEnv.keep, LEnv.ofFrom, List.map_cons, List.map_nil, nbeq, nble, ofAVs, Nat.zero_mul, Bool.or_false, Bool.true_or, Bool.or_true, Bool.and_true, Nat.reduceEqDiff, decide_true, decide_false, cond_true, cond_false, Nat.reduceAdd, reduceCtorEq, List.length_nil, eq_self, retL, resultsL, resAllL, resOfL, List.append_nil, freeze, Nat.reduceDiv, List.take_nil, List.all_nil, fillL, nilOf, eqsL, Bool.xor_false, LV.shift, newOnly, LV.solid, freeze, appendL, contents, views, viewL]
end Go.Am.Ring

/-
  What functions of chapter 04 compute, 15: finds turned round, as the reference says.
-/
set_option linter.unusedVariables false
set_option linter.unusedSimpArgs false
set_option maxRecDepth 10000
namespace Go.Am.Ring
open Go.Am.G

end Go.Am.Ring


