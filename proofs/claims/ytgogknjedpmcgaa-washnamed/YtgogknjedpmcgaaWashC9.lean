/-
  What functions of chapter 13 compute, 9: tides under names, odd, alike; the law of joins.
-/
import Derived.Test.YtgogknjedpmcgaaWashC8
import Derived.Test.YtgogknjedpmcgaaWashC5
import Derived.Test.YtgogknjedpmcgaaWashC3
set_option linter.unusedVariables false
set_option linter.unusedSimpArgs false
set_option maxRecDepth 10000
namespace Go.Am.Wash
open Go.Am.G

theorem cnt_le (R : List (List Nat)) (x : Nat) : cnt R x ≤ R.length := List.length_filter_le _ _
theorem kind_cell (R : List (List Nat)) (hR : ∀ l ∈ R, l.length < 8) (x : Nat) (hx : x < 8) : (ints (ci (kindL R)))[x]? = some (.int .i64 (cnt R x : Int)) := by
  have h8 : (kindL R).length = 8 := by simp [kindL, kF_len]
  rw [← kindL_at R hR x hx, nth_at _ x (by omega), ints, ci_map]
  exact nat_at _ _ _ (by omega)

/-! ### Odd -/
theorem natL_four : natL (.int .i64 4) = some 4 := rfl
theorem natL_six : natL (.int .i64 6) = some 6 := rfl
def oddB (R : List (List Nat)) : Bool := decide ((cnt R 2 + cnt R 4 + cnt R 6) % 2 = 1)
theorem oddP_c (nl ex : Bool) {t : List Nat} (D : Td t) {R : List (List Nat)} {n : Nat} (K : Known t R n) (hc : chkT (ci t) = 0) (m : LMem) : clF LP n_wash_Odd [IL nl ex 1 (ci t)] m = some (.P, .tup [.bool (oddB R), .int .i64 0], m) := by
  have h7 := D.h7
  have hck := fun m => check_c nl ex 1 (ci t) (by rw [ci_len]; omega) m
  rw [hc] at hck
  have hk := fun m => kindK_c nl ex 1 D K m
  have hR := fun l hl => (K.rows l hl).2.1
  have c2 := kind_cell R hR 2 (by omega)
  have c4 := kind_cell R hR 4 (by omega)
  have c6 := kind_cell R hR 6 (by omega)
  have h8 := kind8 R
  have hsc : (ints (ci (kindL R))).all LV.scalar = true := scalars_int _ _
  have hdr : (ints (ci (kindL R))).drop 8 = [] := List.drop_eq_nil_of_le (by omega)
  have l2 := cnt_le R 2
  have l4 := cnt_le R 4
  have l6 := cnt_le R 6
  have hr8 := K.h8
  unfold oddB
  generalize ints (ci (kindL R)) = w at *
  generalize cnt R 2 = x2 at *
  generalize cnt R 4 = x4 at *
  generalize cnt R 6 = x6 at *
  have w1 : IntKind.i64.wrap ((x2 : Int) + (x4 : Int)) = ((x2 + x4 : Nat) : Int) := by rw [wrap_in (by omega)]; omega
  have w2 : IntKind.i64.wrap (((x2 + x4 : Nat) : Int) + (x6 : Int)) = ((x2 + x4 + x6 : Nat) : Int) := by rw [wrap_in (by omega)]; omega
  have w3 : (((x2 + x4 + x6 : Nat) : Int)).tmod 2 = (((x2 + x4 + x6) % 2 : Nat) : Int) := tmod_nat _ 2
  refine call_P lp_wash_Odd rfl (by simp [LV.pures, LV.pure]) (m1 := [⟨w, true⟩]) ?_ (by simp [LV.pures, LV.pure]) m
  by_cases c : (x2 + x4 + x6) % 2 = 1
  · have c' : (((x2 + x4 + x6) % 2 : Nat) : Int) = 1 := by omega
    have d := decide_eq_true c
    rw [d]
    simp only [wash_Odd, wash_Odd.B, beqT, beqF, exF_seq, exF_region, exF_block, exF_cond, exF_ret, exF_exit, exF_skip, runL, wantL, stepL, evL, LEnv.at, putL, loadFine, loadL, cellsAt, Trk.putNew, Trk.up, Trk.touch, Trk.gives, Trk.calm, Trk.hit, opdsOf, Trk.fresh, LEnv.keep, LEnv.ofFrom, List.map_cons, List.map_nil, nbeq, nble, nblt, ofAV, ofAVs, lenL, bin_add, bin_sub, bin_mul, bin_eql, bin_neq, bin_lss, bin_leq, bin_gtr, bin_geq, natL_nat, natL_zero, natL_one, natL_two, Nat.zero_mul, List.any_cons, List.any_nil, Bool.or_false, Bool.false_or, Bool.true_or, Bool.or_true, Bool.and_true, Bool.true_and, Bool.and_false, Bool.false_and, Bool.not_true, Bool.not_false, Nat.reduceBEq, Nat.reduceEqDiff, decide_true, decide_false, cond_true, cond_false, List.filter_nil, List.filter_cons, Nat.reduceAdd, Nat.reduceLeDiff, reduceCtorEq, List.length_nil, List.length_cons, Nat.mul_one, if_true, if_false, Bool.false_eq_true, eq_self, and_true, true_and, retL, resultsL, resAllL, resOfL, List.append_nil, List.nil_append, List.cons_append, true_or, or_true, false_or, or_false, false_and, and_false, not_true_eq_false, not_false_eq_true, ne_eq, unL, trim_nil, views_pures, LV.pures, LV.pure, freeze, Nat.reduceDiv, Int.reduceEq, Int.reduceLT, Int.reduceLE, Int.natCast_zero, LV.cells, allocL, List.getElem?_cons_zero, List.getElem?_cons_succ, storeL, spliceL, List.take_zero, List.take_succ_cons, List.drop_zero, List.drop_succ_cons, List.drop_nil, List.take_nil, Nat.le_refl, Nat.reduceMul, List.set_cons_zero, List.set_cons_succ, LV.scalar, List.all_cons, List.all_nil, Nat.lt_add_one, Nat.zero_lt_one, Nat.reduceLT, Nat.lt_irrefl, fillL, List.length_append, foldIntL, kind_beq, pures_int, solids_int, plains_int, unders_int, scalars_int, hck, hk, h8, hsc, hdr, natL_four, natL_six, c2, c4, c6, w1, w2, bin_rem _ _ _ (show (2 : Int) ≠ 0 by omega), w3, c', d]
  · have c' : ¬ (((x2 + x4 + x6) % 2 : Nat) : Int) = 1 := by omega
    have d := decide_eq_false c
    rw [d]
    simp only [wash_Odd, wash_Odd.B, beqT, beqF, exF_seq, exF_region, exF_block, exF_cond, exF_ret, exF_exit, exF_skip, runL, wantL, stepL, evL, LEnv.at, putL, loadFine, loadL, cellsAt, Trk.putNew, Trk.up, Trk.touch, Trk.gives, Trk.calm, Trk.hit, opdsOf, Trk.fresh, LEnv.keep, LEnv.ofFrom, List.map_cons, List.map_nil, nbeq, nble, nblt, ofAV, ofAVs, lenL, bin_add, bin_sub, bin_mul, bin_eql, bin_neq, bin_lss, bin_leq, bin_gtr, bin_geq, natL_nat, natL_zero, natL_one, natL_two, Nat.zero_mul, List.any_cons, List.any_nil, Bool.or_false, Bool.false_or, Bool.true_or, Bool.or_true, Bool.and_true, Bool.true_and, Bool.and_false, Bool.false_and, Bool.not_true, Bool.not_false, Nat.reduceBEq, Nat.reduceEqDiff, decide_true, decide_false, cond_true, cond_false, List.filter_nil, List.filter_cons, Nat.reduceAdd, Nat.reduceLeDiff, reduceCtorEq, List.length_nil, List.length_cons, Nat.mul_one, if_true, if_false, Bool.false_eq_true, eq_self, and_true, true_and, retL, resultsL, resAllL, resOfL, List.append_nil, List.nil_append, List.cons_append, true_or, or_true, false_or, or_false, false_and, and_false, not_true_eq_false, not_false_eq_true, ne_eq, unL, trim_nil, views_pures, LV.pures, LV.pure, freeze, Nat.reduceDiv, Int.reduceEq, Int.reduceLT, Int.reduceLE, Int.natCast_zero, LV.cells, allocL, List.getElem?_cons_zero, List.getElem?_cons_succ, storeL, spliceL, List.take_zero, List.take_succ_cons, List.drop_zero, List.drop_succ_cons, List.drop_nil, List.take_nil, Nat.le_refl, Nat.reduceMul, List.set_cons_zero, List.set_cons_succ, LV.scalar, List.all_cons, List.all_nil, Nat.lt_add_one, Nat.zero_lt_one, Nat.reduceLT, Nat.lt_irrefl, fillL, List.length_append, foldIntL, kind_beq, pures_int, solids_int, plains_int, unders_int, scalars_int, hck, hk, h8, hsc, hdr, natL_four, natL_six, c2, c4, c6, w1, w2, bin_rem _ _ _ (show (2 : Int) ≠ 0 by omega), w3, c', d]
/-! ### Under names -/
def nmI (t nm : List Nat) : Nat → Nat → List Nat → List Nat
  | 0, _, o => o
  | n + 1, k, o => nmI t nm n (k + 1) (o.set (nth nm k) (nth nm (nth t k)))
theorem nmI_len (t nm : List Nat) (n : Nat) : ∀ k o, (nmI t nm n k o).length = o.length := by
  induction n with
  | zero => intro k o; rfl
  | succ n ih => intro k o; rw [nmI, ih]; simp
theorem nmI_at {t nm : List Nat} (W : Two t nm) (n : Nat) : ∀ (k : Nat) (o : List Nat), k + n = nm.length → o.length = nm.length → (∀ j, j < k → nth o (nth nm j) = nth nm (nth t j)) → ∀ j, j < nm.length → nth (nmI t nm n k o) (nth nm j) = nth nm (nth t j) := by
  induction n with
  | zero => intro k o hk ho h j hj; exact h j (by omega)
  | succ n ih =>
    intro k o hk ho h j hj
    have hkl : k < nm.length := by omega
    have hlt : nth nm k < o.length := by rw [ho, nth_at nm k hkl]; exact W.B.lt _ (List.getElem_mem hkl)
    rw [nmI]
    refine ih (k + 1) _ (by omega) (by simpa using ho) (fun i hi => ?_) j hj
    rw [nth_set _ _ _ _ hlt]
    by_cases c : i = k
    · subst c; rw [if_pos rfl]
    · have hne : nth nm i ≠ nth nm k := by
        intro e
        rw [nth_at nm i (by omega), nth_at nm k hkl] at e
        exact c ((List.getElem_inj W.B.T.2.1).1 e)
      rw [if_neg hne]
      exact h i (by omega)
theorem covers {nm : List Nat} (D : Td nm) (x : Nat) (hx : x < nm.length) : x ∈ nm := by
  refine Classical.byContradiction fun c => ?_
  have := nodup_len nm.length (x :: nm) (List.nodup_cons.2 ⟨c, D.T.2.1⟩) (fun y hy => by
    rcases List.mem_cons.1 hy with rfl | hy
    · exact hx
    · exact D.lt y hy)
  simp only [List.length_cons] at this
  omega
/-- What was there before does not matter. -/
theorem nmI_any {t nm : List Nat} (W : Two t nm) (o o' : List Nat) (h : o.length = nm.length) (h' : o'.length = nm.length) : nmI t nm nm.length 0 o = nmI t nm nm.length 0 o' := by
  apply list_nth_ext (by rw [nmI_len, nmI_len, h, h'])
  intro x hx
  rw [nmI_len, h] at hx
  obtain ⟨j, hj, e⟩ := mem_nth (covers W.B x hx)
  rw [← e, nmI_at W nm.length 0 o (by omega) h (fun j hj => absurd hj (by omega)) j hj, nmI_at W nm.length 0 o' (by omega) h' (fun j hj => absurd hj (by omega)) j hj]
def namN (t nm : List Nat) : List Nat := nmI t nm nm.length 0 (List.replicate nm.length 0)
theorem namN_len (t nm : List Nat) : (namN t nm).length = nm.length := by rw [namN, nmI_len]; simp
theorem clone_c (nl ex : Bool) (l : List Int) (hl : l.length < 1000000) (hne : l ≠ []) (hnl : nl = false) (m : LMem) : clF LP n_slices_Clone_int_int [IL nl ex 1 l] m = some (.O, .sl m.length 0 l.length l.length 1 1 l.length, m ++ [⟨l.map (LV.int .i64), true⟩]) := by
  subst hnl
  have h0 : ¬ l.length = 0 := by simpa using hne
  have hr1 : l.length * 8 ≤ roomMost := by unfold roomMost; omega
  have hr2 : l.length ≤ roomMost := by unfold roomMost; omega
  rw [clF_eq, lp_slices_Clone_int_int]
  simp only [callMode, slices_Clone_int_int, views_pures m [IL false ex 1 l] (by simp [LV.pures, LV.pure])]
  simp only [slices_Clone_int_int.B, beqT, beqF, exF_seq, exF_region, exF_block, exF_cond, exF_ret, exF_exit, exF_skip, runL, wantL, stepL, evL, LEnv.at, putL, loadFine, loadL, cellsAt, Trk.putNew, Trk.up, Trk.touch, Trk.gives, Trk.calm, Trk.hit, opdsOf, Trk.fresh, LEnv.keep, LEnv.ofFrom, List.map_cons, List.map_nil, nbeq, nble, nblt, ofAV, ofAVs, lenL, bin_add, bin_sub, bin_mul, bin_eql, bin_neq, bin_lss, bin_leq, bin_gtr, bin_geq, natL_nat, natL_zero, natL_one, natL_two, Nat.zero_mul, List.any_cons, List.any_nil, Bool.or_false, Bool.false_or, Bool.true_or, Bool.or_true, Bool.and_true, Bool.true_and, Bool.and_false, Bool.false_and, Bool.not_true, Bool.not_false, Nat.reduceBEq, Nat.reduceEqDiff, decide_true, decide_false, cond_true, cond_false, List.filter_nil, List.filter_cons, Nat.reduceAdd, Nat.reduceLeDiff, reduceCtorEq, List.length_nil, List.length_cons, Nat.mul_one, if_true, if_false, Bool.false_eq_true, eq_self, and_true, true_and, retL, resultsL, resAllL, resOfL, List.append_nil, List.nil_append, List.cons_append, true_or, or_true, false_or, or_false, false_and, and_false, not_true_eq_false, not_false_eq_true, ne_eq, unL, trim_nil, views_pures, LV.pures, LV.pure, freeze, Nat.reduceDiv, Int.reduceEq, Int.reduceLT, Int.reduceLE, Int.natCast_zero, LV.cells, allocL, List.getElem?_cons_zero, List.getElem?_cons_succ, storeL, spliceL, List.take_zero, List.take_succ_cons, List.drop_zero, List.drop_succ_cons, List.drop_nil, List.take_nil, Nat.le_refl, Nat.reduceMul, List.set_cons_zero, List.set_cons_succ, LV.scalar, List.all_cons, List.all_nil, Nat.lt_add_one, Nat.zero_lt_one, Nat.reduceLT, Nat.lt_irrefl, fillL, List.length_append, foldIntL, kind_beq, pures_int, solids_int, plains_int, unders_int, scalars_int, nilOf, eqsL, Bool.xor_false, Bool.false_xor, Bool.xor_true, LV.shift, newOnly, LV.solid, freeze, appendL, contents, views, viewL, h0, hr1, hr2, newSl, Nat.zero_add, shifts_int, hne]
theorem named_loop (nl ex nl' ex' : Bool) {t nm : List Nat} (W : Two t nm) (g N : Nat) (hN : nm.length = N) (n : Nat) : ∀ (k : Nat) (o : List Nat), k + n = N → o.length = N →
    exF LP wash_Named.L0 [(1, IL nl' ex' 1 (ci nm)), (7, .sl 0 0 N N g 1 N), (18, IL nl ex 1 (ci t)), (19, .int .i64 (N : Int)), (20, .int .i64 (k : Int))] [⟨ints (ci o), true⟩] = some (.exit 0, [(7, .sl 0 0 N N g 1 N)], [⟨ints (ci (nmI t nm n k o)), true⟩]) := by
  have h7 := W.B.h7
  induction n with
  | zero =>
    intro k o hk ho
    rw [wash_Named.L0_eq]
    simp only [wash_Named.B0, beqT, beqF, exF_seq, exF_region, exF_block, exF_cond, exF_ret, exF_exit, exF_skip, runL, wantL, stepL, evL, LEnv.at, putL, loadFine, loadL, cellsAt, Trk.putNew, Trk.up, Trk.touch, Trk.gives, Trk.calm, Trk.hit, opdsOf, Trk.fresh, LEnv.keep, LEnv.ofFrom, List.map_cons, List.map_nil, nbeq, nble, nblt, ofAV, ofAVs, lenL, bin_add, bin_sub, bin_mul, bin_eql, bin_neq, bin_lss, bin_leq, bin_gtr, bin_geq, natL_nat, natL_zero, natL_one, natL_two, Nat.zero_mul, List.any_cons, List.any_nil, Bool.or_false, Bool.false_or, Bool.true_or, Bool.or_true, Bool.and_true, Bool.true_and, Bool.and_false, Bool.false_and, Bool.not_true, Bool.not_false, Nat.reduceBEq, Nat.reduceEqDiff, decide_true, decide_false, cond_true, cond_false, List.filter_nil, List.filter_cons, Nat.reduceAdd, Nat.reduceLeDiff, reduceCtorEq, List.length_nil, List.length_cons, Nat.mul_one, if_true, if_false, Bool.false_eq_true, eq_self, and_true, true_and, retL, resultsL, resAllL, resOfL, List.append_nil, List.nil_append, List.cons_append, true_or, or_true, false_or, or_false, false_and, and_false, not_true_eq_false, not_false_eq_true, ne_eq, unL, trim_nil, views_pures, LV.pures, LV.pure, freeze, Nat.reduceDiv, Int.reduceEq, Int.reduceLT, Int.reduceLE, Int.natCast_zero, LV.cells, allocL, List.getElem?_cons_zero, List.getElem?_cons_succ, storeL, spliceL, List.take_zero, List.take_succ_cons, List.drop_zero, List.drop_succ_cons, List.drop_nil, List.take_nil, Nat.le_refl, Nat.reduceMul, List.set_cons_zero, List.set_cons_succ, LV.scalar, List.all_cons, List.all_nil, Nat.lt_add_one, Nat.zero_lt_one, Nat.reduceLT, Nat.lt_irrefl, fillL, List.length_append, foldIntL, kind_beq, pures_int, solids_int, plains_int, unders_int, scalars_int, show ¬ ((k : Int) < (N : Int)) by omega, nmI]
  | succ n ih =>
    intro k o hk ho
    have h2 : k < t.length := by rw [W.len]; omega
    have h3 : k < nm.length := by omega
    have h4 := W.lt _ (List.getElem_mem h2)
    have h5 : nm[k] < N := by rw [← hN]; exact W.B.lt _ (List.getElem_mem h3)
    have ih := ih (k + 1) (o.set nm[k] nm[t[k]]) (by omega) (by simpa using ho)
    have hoc : (ints (ci o)).length = N := by simp [ho]
    have hst : (ints (ci o)).take nm[k] ++ [.int .i64 ((nm[t[k]] : Nat) : Int)] ++ (ints (ci o)).drop (nm[k] + 1) = ints (ci (o.set nm[k] nm[t[k]])) := by
      have := set_int .i64 (ci o) nm[k] ((nm[t[k]] : Nat) : Int) (by rw [ci_len]; omega)
      rw [ints, this]
      simp [List.map_set]
    rw [wash_Named.L0_eq, nmI, nth_at nm k h3, nth_at t k h2, nth_at nm _ h4]
    simp only [IL, ci_len, ci_map] at ih ⊢
    simp only [wash_Named.B0, beqT, beqF, exF_seq, exF_region, exF_block, exF_cond, exF_ret, exF_exit, exF_skip, runL, wantL, stepL, evL, LEnv.at, putL, loadFine, loadL, cellsAt, Trk.putNew, Trk.up, Trk.touch, Trk.gives, Trk.calm, Trk.hit, opdsOf, Trk.fresh, LEnv.keep, LEnv.ofFrom, List.map_cons, List.map_nil, nbeq, nble, nblt, ofAV, ofAVs, lenL, bin_add, bin_sub, bin_mul, bin_eql, bin_neq, bin_lss, bin_leq, bin_gtr, bin_geq, natL_nat, natL_zero, natL_one, natL_two, Nat.zero_mul, List.any_cons, List.any_nil, Bool.or_false, Bool.false_or, Bool.true_or, Bool.or_true, Bool.and_true, Bool.true_and, Bool.and_false, Bool.false_and, Bool.not_true, Bool.not_false, Nat.reduceBEq, Nat.reduceEqDiff, decide_true, decide_false, cond_true, cond_false, List.filter_nil, List.filter_cons, Nat.reduceAdd, Nat.reduceLeDiff, reduceCtorEq, List.length_nil, List.length_cons, Nat.mul_one, if_true, if_false, Bool.false_eq_true, eq_self, and_true, true_and, retL, resultsL, resAllL, resOfL, List.append_nil, List.nil_append, List.cons_append, true_or, or_true, false_or, or_false, false_and, and_false, not_true_eq_false, not_false_eq_true, ne_eq, unL, trim_nil, views_pures, LV.pures, LV.pure, freeze, Nat.reduceDiv, Int.reduceEq, Int.reduceLT, Int.reduceLE, Int.natCast_zero, LV.cells, allocL, List.getElem?_cons_zero, List.getElem?_cons_succ, storeL, spliceL, List.take_zero, List.take_succ_cons, List.drop_zero, List.drop_succ_cons, List.drop_nil, List.take_nil, Nat.le_refl, Nat.reduceMul, List.set_cons_zero, List.set_cons_succ, LV.scalar, List.all_cons, List.all_nil, Nat.lt_add_one, Nat.zero_lt_one, Nat.reduceLT, Nat.lt_irrefl, fillL, List.length_append, foldIntL, kind_beq, pures_int, solids_int, plains_int, unders_int, scalars_int, show ((k : Int) < (N : Int)) by omega, h2, h3, h4, h5, nat_at _ _ _ h2, nat_at _ _ _ h3, nat_at _ _ _ h4, Nat.zero_add] at hoc hst ih ⊢
    simp only [ints, ci_map] at hoc hst ih ⊢
    simp only [beqT, beqF, exF_seq, exF_region, exF_block, exF_cond, exF_ret, exF_exit, exF_skip, runL, wantL, stepL, evL, LEnv.at, putL, loadFine, loadL, cellsAt, Trk.putNew, Trk.up, Trk.touch, Trk.gives, Trk.calm, Trk.hit, opdsOf, Trk.fresh, LEnv.keep, LEnv.ofFrom, List.map_cons, List.map_nil, nbeq, nble, nblt, ofAV, ofAVs, lenL, bin_add, bin_sub, bin_mul, bin_eql, bin_neq, bin_lss, bin_leq, bin_gtr, bin_geq, natL_nat, natL_zero, natL_one, natL_two, Nat.zero_mul, List.any_cons, List.any_nil, Bool.or_false, Bool.false_or, Bool.true_or, Bool.or_true, Bool.and_true, Bool.true_and, Bool.and_false, Bool.false_and, Bool.not_true, Bool.not_false, Nat.reduceBEq, Nat.reduceEqDiff, decide_true, decide_false, cond_true, cond_false, List.filter_nil, List.filter_cons, Nat.reduceAdd, Nat.reduceLeDiff, reduceCtorEq, List.length_nil, List.length_cons, Nat.mul_one, if_true, if_false, Bool.false_eq_true, eq_self, and_true, true_and, retL, resultsL, resAllL, resOfL, List.append_nil, List.nil_append, List.cons_append, true_or, or_true, false_or, or_false, false_and, and_false, not_true_eq_false, not_false_eq_true, ne_eq, unL, trim_nil, views_pures, LV.pures, LV.pure, freeze, Nat.reduceDiv, Int.reduceEq, Int.reduceLT, Int.reduceLE, Int.natCast_zero, LV.cells, allocL, List.getElem?_cons_zero, List.getElem?_cons_succ, storeL, spliceL, List.take_zero, List.take_succ_cons, List.drop_zero, List.drop_succ_cons, List.drop_nil, List.take_nil, Nat.le_refl, Nat.reduceMul, List.set_cons_zero, List.set_cons_succ, LV.scalar, List.all_cons, List.all_nil, Nat.lt_add_one, Nat.zero_lt_one, Nat.reduceLT, Nat.lt_irrefl, fillL, List.length_append, foldIntL, kind_beq, pures_int, solids_int, plains_int, unders_int, scalars_int, hoc, show nm[k] + 1 ≤ N by omega, hst, wrap_succ (show k + 1 < 9223372036854775808 by omega), ih]
end Go.Am.Wash


/-
  What functions of chapter 13 compute, 10: a tide under names, tides alike; the law of joins.
-/
set_option linter.unusedVariables false
set_option linter.unusedSimpArgs false
set_option maxRecDepth 10000
set_option maxHeartbeats 1000000
namespace Go.Am.Wash
open Go.Am.G

/-! ### Named -/
theorem namedP_c (nl ex nl' ex' : Bool) {t nm : List Nat} (W : Two t nm) (hnl : nl = false) (m : LMem) : clF LP n_wash_Named [IL nl ex 1 (ci t), IL nl' ex' 1 (ci nm)] m = some (.P, .tup [IL false false 1 (ci (namN t nm)), .int .i64 0], m) := by
  have h7 := W.A.h7
  have h1 := W.A.h1
  have hl := W.len
  have hbo := fun m => both_c nl ex nl' ex' (ci t) (ci nm) (by rw [ci_len]; omega) (by rw [ci_len]; omega) m
  rw [W.e] at hbo
  have hcl := fun m => clone_c nl ex (ci t) (by rw [ci_len]; omega) (by intro c; have e := congrArg List.length c; rw [ci_len] at e; change t.length = 0 at e; omega) hnl m
  simp only [ci_len] at hcl
  have hlo := named_loop nl ex nl' ex' W 1 t.length hl.symm t.length 0 t (by omega) rfl
  have e : nmI t nm t.length 0 t = namN t nm := by
    rw [namN, ← hl]
    have := nmI_any W t (List.replicate nm.length 0) hl (by simp)
    rw [← hl] at this
    exact this
  rw [e] at hlo
  simp only [Int.natCast_zero] at hlo
  have hal : (namN t nm).length = t.length := by rw [namN_len, hl]
  generalize namN t nm = w at *
  have hv : view 40 [⟨ints (ci w), true⟩] (.tup [.sl 0 0 t.length t.length 1 1 t.length, .int .i64 0]) = some (.tup [IL false false 1 (ci w), .int .i64 0], [0]) := by
    refine view_tup2 _ _ _ _ _ (fun k => ?_) rfl (by simp [LV.pures, LV.pure])
    have := view_sl k [⟨ints (ci w), true⟩] 0 0 t.length t.length 1 (ci w) true rfl (by rw [ci_len]; exact hal) (by omega) t.length (by omega)
    rw [List.drop_zero, List.take_of_length_le (by rw [ci_len]; omega)] at this
    rw [this]
    simp [nbeq]
  refine call_Pv lp_wash_Named rfl (by simp [LV.pures, LV.pure]) ?_ hv m
  have hcl0 := hcl []
  simp only [List.length_nil, List.nil_append] at hcl0
  simp only [wash_Named, wash_Named.B, beqT, beqF, exF_seq, exF_region, exF_block, exF_cond, exF_ret, exF_exit, exF_skip, runL, wantL, stepL, evL, LEnv.at, putL, loadFine, loadL, cellsAt, Trk.putNew, Trk.up, Trk.touch, Trk.gives, Trk.calm, Trk.hit, opdsOf, Trk.fresh, LEnv.keep, LEnv.ofFrom, List.map_cons, List.map_nil, nbeq, nble, nblt, ofAV, ofAVs, lenL, bin_add, bin_sub, bin_mul, bin_eql, bin_neq, bin_lss, bin_leq, bin_gtr, bin_geq, natL_nat, natL_zero, natL_one, natL_two, Nat.zero_mul, List.any_cons, List.any_nil, Bool.or_false, Bool.false_or, Bool.true_or, Bool.or_true, Bool.and_true, Bool.true_and, Bool.and_false, Bool.false_and, Bool.not_true, Bool.not_false, Nat.reduceBEq, Nat.reduceEqDiff, decide_true, decide_false, cond_true, cond_false, List.filter_nil, List.filter_cons, Nat.reduceAdd, Nat.reduceLeDiff, reduceCtorEq, List.length_nil, List.length_cons, Nat.mul_one, if_true, if_false, Bool.false_eq_true, eq_self, and_true, true_and, retL, resultsL, resAllL, resOfL, List.append_nil, List.nil_append, List.cons_append, true_or, or_true, false_or, or_false, false_and, and_false, not_true_eq_false, not_false_eq_true, ne_eq, unL, trim_nil, views_pures, LV.pures, LV.pure, freeze, Nat.reduceDiv, Int.reduceEq, Int.reduceLT, Int.reduceLE, Int.natCast_zero, LV.cells, allocL, List.getElem?_cons_zero, List.getElem?_cons_succ, storeL, spliceL, List.take_zero, List.take_succ_cons, List.drop_zero, List.drop_succ_cons, List.drop_nil, List.take_nil, Nat.le_refl, Nat.reduceMul, List.set_cons_zero, List.set_cons_succ, LV.scalar, List.all_cons, List.all_nil, Nat.lt_add_one, Nat.zero_lt_one, Nat.reduceLT, Nat.lt_irrefl, fillL, List.length_append, foldIntL, kind_beq, pures_int, solids_int, plains_int, unders_int, scalars_int, ci_len, hbo, hcl0]
  simp only [beqT, beqF, exF_seq, exF_region, exF_block, exF_cond, exF_ret, exF_exit, exF_skip, runL, wantL, stepL, evL, LEnv.at, putL, loadFine, loadL, cellsAt, Trk.putNew, Trk.up, Trk.touch, Trk.gives, Trk.calm, Trk.hit, opdsOf, Trk.fresh, LEnv.keep, LEnv.ofFrom, List.map_cons, List.map_nil, nbeq, nble, nblt, ofAV, ofAVs, lenL, bin_add, bin_sub, bin_mul, bin_eql, bin_neq, bin_lss, bin_leq, bin_gtr, bin_geq, natL_nat, natL_zero, natL_one, natL_two, Nat.zero_mul, List.any_cons, List.any_nil, Bool.or_false, Bool.false_or, Bool.true_or, Bool.or_true, Bool.and_true, Bool.true_and, Bool.and_false, Bool.false_and, Bool.not_true, Bool.not_false, Nat.reduceBEq, Nat.reduceEqDiff, decide_true, decide_false, cond_true, cond_false, List.filter_nil, List.filter_cons, Nat.reduceAdd, Nat.reduceLeDiff, reduceCtorEq, List.length_nil, List.length_cons, Nat.mul_one, if_true, if_false, Bool.false_eq_true, eq_self, and_true, true_and, retL, resultsL, resAllL, resOfL, List.append_nil, List.nil_append, List.cons_append, true_or, or_true, false_or, or_false, false_and, and_false, not_true_eq_false, not_false_eq_true, ne_eq, unL, trim_nil, views_pures, LV.pures, LV.pure, freeze, Nat.reduceDiv, Int.reduceEq, Int.reduceLT, Int.reduceLE, Int.natCast_zero, LV.cells, allocL, List.getElem?_cons_zero, List.getElem?_cons_succ, storeL, spliceL, List.take_zero, List.take_succ_cons, List.drop_zero, List.drop_succ_cons, List.drop_nil, List.take_nil, Nat.le_refl, Nat.reduceMul, List.set_cons_zero, List.set_cons_succ, LV.scalar, List.all_cons, List.all_nil, Nat.lt_add_one, Nat.zero_lt_one, Nat.reduceLT, Nat.lt_irrefl, fillL, List.length_append, foldIntL, kind_beq, pures_int, solids_int, plains_int, unders_int, scalars_int, ci_len, hlo]
/-! ### Alike -/
theorem eqInts_ci : ∀ (a b : List Nat), a.length = b.length → eqIntsL (ints (ci a)) (ints (ci b)) = some (eqN a b)
  | [], [], _ => rfl
  | x :: r, y :: s, h => by
    have ih := eqInts_ci r s (by simpa using h)
    simp only [ints, ci_map] at ih
    simp only [ints, ci_map, List.map_cons, eqIntsL, ih, eqN]
    have e : (((x : Nat) : Int) == ((y : Nat) : Int)) = Nat.beq x y := by
      by_cases c : x = y
      · subst c; simp
      · have : ¬ ((x : Nat) : Int) = ((y : Nat) : Int) := by omega
        simp [c, this, nbeq]
    rw [e]
    cases Nat.beq x y <;> rfl
  | [], _ :: _, h => by simp at h
  | _ :: _, [], h => by simp at h
def alkB (R S : List (List Nat)) : Bool := eqN (kindL R) (kindL S)
theorem alikeP_c (nl ex nl' ex' : Bool) {a b : List Nat} (W : Two a b) {R S : List (List Nat)} {n n' : Nat} (K : Known a R n) (K' : Known b S n') (m : LMem) : clF LP n_wash_Alike [IL nl ex 1 (ci a), IL nl' ex' 1 (ci b)] m = some (.P, .tup [.bool (alkB R S), .int .i64 0], m) := by
  have h7 := W.A.h7
  have hl := W.len
  have hbo := fun m => both_c nl ex nl' ex' (ci a) (ci b) (by rw [ci_len]; omega) (by rw [ci_len]; omega) m
  rw [W.e] at hbo
  have k1 := fun m => kindK_c nl ex 1 W.A K m
  have k2 := fun m => kindK_c nl' ex' 1 W.B K' m
  have e := eqInts_ci (kindL R) (kindL S) (by simp [kindL, kF_len])
  have l1 := kind8 R
  have l2 := kind8 S
  unfold alkB
  generalize ints (ci (kindL R)) = u at *
  generalize ints (ci (kindL S)) = v at *
  refine call_P lp_wash_Alike rfl (by simp [LV.pures, LV.pure]) (m1 := []) ?_ (by simp [LV.pures, LV.pure]) m
  simp only [wash_Alike, wash_Alike.B, beqT, beqF, exF_seq, exF_region, exF_block, exF_cond, exF_ret, exF_exit, exF_skip, runL, wantL, stepL, evL, LEnv.at, putL, loadFine, loadL, cellsAt, Trk.putNew, Trk.up, Trk.touch, Trk.gives, Trk.calm, Trk.hit, opdsOf, Trk.fresh, LEnv.keep, LEnv.ofFrom, List.map_cons, List.map_nil, nbeq, nble, nblt, ofAV, ofAVs, lenL, bin_add, bin_sub, bin_mul, bin_eql, bin_neq, bin_lss, bin_leq, bin_gtr, bin_geq, natL_nat, natL_zero, natL_one, natL_two, Nat.zero_mul, List.any_cons, List.any_nil, Bool.or_false, Bool.false_or, Bool.true_or, Bool.or_true, Bool.and_true, Bool.true_and, Bool.and_false, Bool.false_and, Bool.not_true, Bool.not_false, Nat.reduceBEq, Nat.reduceEqDiff, decide_true, decide_false, cond_true, cond_false, List.filter_nil, List.filter_cons, Nat.reduceAdd, Nat.reduceLeDiff, reduceCtorEq, List.length_nil, List.length_cons, Nat.mul_one, if_true, if_false, Bool.false_eq_true, eq_self, and_true, true_and, retL, resultsL, resAllL, resOfL, List.append_nil, List.nil_append, List.cons_append, true_or, or_true, false_or, or_false, false_and, and_false, not_true_eq_false, not_false_eq_true, ne_eq, unL, trim_nil, views_pures, LV.pures, LV.pure, freeze, Nat.reduceDiv, Int.reduceEq, Int.reduceLT, Int.reduceLE, Int.natCast_zero, LV.cells, allocL, List.getElem?_cons_zero, List.getElem?_cons_succ, storeL, spliceL, List.take_zero, List.take_succ_cons, List.drop_zero, List.drop_succ_cons, List.drop_nil, List.take_nil, Nat.le_refl, Nat.reduceMul, List.set_cons_zero, List.set_cons_succ, LV.scalar, List.all_cons, List.all_nil, Nat.lt_add_one, Nat.zero_lt_one, Nat.reduceLT, Nat.lt_irrefl, fillL, List.length_append, foldIntL, kind_beq, pures_int, solids_int, plains_int, unders_int, scalars_int, hbo, k1, k2, l1, l2, e, Bool.false_xor]
def alkF (R S : List (List Nat)) : Nat → Nat → Bool
  | 0, _ => true
  | n + 1, k => if cnt R k = cnt S k then alkF R S n (k + 1) else false
theorem cnt_0 {t : List Nat} {R : List (List Nat)} {n : Nat} (K : Known t R n) : cnt R 0 = 0 := by
  unfold cnt
  rw [List.length_eq_zero_iff, List.filter_eq_nil_iff]
  intro l hl
  have := (K.rows l hl).1
  simp; intro c; rw [c] at this; simp at this
theorem alkF_ok (R S : List (List Nat)) (n : Nat) : ∀ k, (alkF R S n k = true ↔ ∀ x, k ≤ x → x < k + n → cnt R x = cnt S x) := by
  induction n with
  | zero => intro k; simp [alkF]; intros; omega
  | succ n ih =>
    intro k
    rw [alkF]
    by_cases c : cnt R k = cnt S k
    · rw [if_pos c, ih]
      constructor
      · intro h x h1 h2
        by_cases e : x = k
        · subst e; exact c
        · exact h x (by omega) (by omega)
      · intro h x h1 h2
        exact h x (by omega) (by omega)
    · rw [if_neg c]
      simp only [Bool.false_eq_true, false_iff]
      intro h
      exact c (h k (by omega) (by omega))
theorem alk_eq {a b : List Nat} {R S : List (List Nat)} {i j : Nat} (K : Known a R i) (K' : Known b S j) : alkF R S 7 1 = alkB R S := by
  have hR := fun l hl => (K.rows l hl).2.1
  have hS := fun l hl => (K'.rows l hl).2.1
  have l1 : (kindL R).length = 8 := by simp [kindL, kF_len]
  have l2 : (kindL S).length = 8 := by simp [kindL, kF_len]
  rw [Bool.eq_iff_iff, alkF_ok, alkB, eqN_all _ _ (by omega)]
  constructor
  · intro h
    apply list_nth_ext (by omega)
    intro x hx
    rw [l1] at hx
    rw [kindL_at R hR x hx, kindL_at S hS x hx]
    by_cases c : x = 0
    · subst c; rw [cnt_0 K, cnt_0 K']
    · exact h x (by omega) (by omega)
  · intro h x h1 h2
    rw [← kindL_at R hR x (by omega), ← kindL_at S hS x (by omega), h]
end Go.Am.Wash


/-
  What functions of chapter 13 compute, 11: why there is no half.
-/
set_option linter.unusedVariables false
set_option linter.unusedSimpArgs false
set_option maxRecDepth 10000
namespace Go.Am.Wash
open Go.Am.G

theorem rem2 (x : Nat) : BinOp.rem = BinOp.rem ∧ ((x : Int)).tmod 2 = ((x % 2 : Nat) : Int) := ⟨rfl, tmod_nat _ 2⟩
end Go.Am.Wash


/-
  Plain: halves of a tide and its friends; the program's search for a half. No statement of the seat is proved here.
-/
set_option linter.unusedVariables false
set_option linter.unusedSimpArgs false
namespace Go.Am.Wash

/-! ### What is left of all tides -/
/-- The tides that are so; what begins badly is left out at once. -/
def flt (n : Nat) (P bad : List Nat → Bool) : Nat → List Nat → List (List Nat)
  | 0, b => cond (P b) [b] []
  | d + 1, b => permsC n (fun b => cond (bad b) [] (flt n P bad d b)) b n 0
theorem permsC_mem (n : Nat) (f : List Nat → List (List Nat)) (b : List Nat) (k : Nat) : ∀ (x : Nat) (q : List Nat), q ∈ permsC n f b k x → ∃ y, q ∈ f (b ++ [y]) := by
  induction k with
  | zero => intro x q h; simp [permsC] at h
  | succ k ih =>
    intro x q h
    rw [permsC, List.mem_append] at h
    rcases h with h | h
    · cases c : hasN b x
      · rw [c] at h; exact ⟨x, h⟩
      · rw [c] at h; simp at h
    · exact ih _ _ h
theorem perms_ext (n : Nat) (d : Nat) : ∀ (b q : List Nat), q ∈ perms n d b → ∃ r, q = b ++ r := by
  induction d with
  | zero => intro b q h; rw [perms, List.mem_singleton] at h; exact ⟨[], by simp [h]⟩
  | succ d ih =>
    intro b q h
    obtain ⟨y, h⟩ := permsC_mem _ _ _ _ _ _ h
    obtain ⟨r, e⟩ := ih _ _ h
    exact ⟨y :: r, by simp [e]⟩
theorem permsC_flt (n : Nat) (P : List Nat → Bool) (f g : List Nat → List (List Nat)) (b : List Nat) (h : ∀ y, g (b ++ [y]) = (f (b ++ [y])).filter P) (k : Nat) : ∀ x, permsC n g b k x = (permsC n f b k x).filter P := by
  induction k with
  | zero => intro x; rfl
  | succ k ih =>
    intro x
    rw [permsC, permsC, List.filter_append, ih]
    cases hasN b x
    · simp only [cond_false]; rw [h]
    · rfl
theorem flt_ok (n : Nat) (P bad : List Nat → Bool) (h : ∀ b r, bad b = true → P (b ++ r) = false) (d : Nat) : ∀ b, flt n P bad d b = (perms n d b).filter P := by
  induction d with
  | zero => intro b; rw [flt, perms]; cases c : P b <;> simp [c]
  | succ d ih =>
    intro b
    rw [flt, perms]
    refine permsC_flt n P _ _ b (fun y => ?_) n 0
    cases c : bad (b ++ [y])
    · simp only [cond_false]; rw [ih]
    · simp only [cond_true]
      symm
      rw [List.filter_eq_nil_iff]
      intro q hq
      obtain ⟨r, rfl⟩ := perms_ext _ _ _ _ hq
      rw [h _ _ c]; simp

/-! ### Halves and friends -/
def isHalf (t q : List Nat) : Bool := eqN (mapN q q) t
def badH (t b : List Nat) : Nat → Nat → Bool
  | 0, _ => false
  | n + 1, k => cond (Nat.blt (nth b k) b.length) (cond (Nat.beq (nth b (nth b k)) (nth t k)) (badH t b n (k + 1)) true) (badH t b n (k + 1))
def isFriend (t q : List Nat) : Bool := eqN (mapN t q) (mapN q t)
def badC (t b : List Nat) : Nat → Nat → Bool
  | 0, _ => false
  | n + 1, k => cond (Nat.blt (nth t k) b.length) (cond (Nat.beq (nth b (nth t k)) (nth t (nth b k))) (badC t b n (k + 1)) true) (badC t b n (k + 1))
def halvesF (t : List Nat) : List (List Nat) := flt t.length (isHalf t) (fun b => badH t b b.length 0) t.length []
def friendsF (t : List Nat) : List (List Nat) := flt t.length (isFriend t) (fun b => badC t b b.length 0) t.length []
theorem mapN_len (b : List Nat) : ∀ a : List Nat, (mapN b a).length = a.length
  | [] => rfl
  | x :: r => by rw [mapN, List.length_cons, mapN_len b r, List.length_cons]
theorem mapN_nth (b : List Nat) : ∀ (a : List Nat) (k : Nat), k < a.length → nth (mapN b a) k = nth b (nth a k)
  | [], _, h => by simp at h
  | x :: r, 0, _ => rfl
  | x :: r, k + 1, h => by
    rw [mapN, nth, nth]; exact mapN_nth b r k (by simpa using h)
theorem nth_app (b r : List Nat) (k : Nat) (h : k < b.length) : nth (b ++ r) k = nth b k := by
  rw [nth_at' _ k (by simp; omega), nth_at' b k h, List.getElem_append_left]
theorem blt_of {a b : Nat} (h : Nat.blt a b = true) : a < b := by simpa [Nat.blt_eq] using h
theorem badC_ok (t b : List Nat) (n : Nat) : ∀ k, badC t b n k = true → ∃ p, p < k + n ∧ nth t p < b.length ∧ nth b (nth t p) ≠ nth t (nth b p) := by
  induction n with
  | zero => intro k h; cases h
  | succ n ih =>
    intro k h
    rw [badC] at h
    cases c : Nat.blt (nth t k) b.length
    · rw [c, cond_false] at h
      obtain ⟨p, h1, h2⟩ := ih _ h
      exact ⟨p, by omega, h2⟩
    · rw [c, cond_true] at h
      cases c2 : Nat.beq (nth b (nth t k)) (nth t (nth b k))
      · refine ⟨k, by omega, blt_of c, fun e => ?_⟩
        rw [e, Nat.beq_refl] at c2; cases c2
      · rw [c2, cond_true] at h
        obtain ⟨p, h1, h2⟩ := ih _ h
        exact ⟨p, by omega, h2⟩
theorem friendsF_ok (t : List Nat) : friendsF t = (perms t.length t.length []).filter (isFriend t) := by
  refine flt_ok _ _ _ (fun b r h => ?_) _ _
  obtain ⟨p, h1, h2, h3⟩ := badC_ok _ _ _ _ h
  rw [Bool.eq_false_iff]
  intro c
  have e := eqN_ok _ _ c
  have hl := congrArg List.length e
  rw [mapN_len, mapN_len, List.length_append] at hl
  have h4 := mapN_nth t (b ++ r) p (by simp; omega)
  have h5 := mapN_nth (b ++ r) t p (by omega)
  rw [e, h5, nth_app b r p (by omega), nth_app b r _ h2] at h4
  exact h3 h4

/-! ### How many there are, by the lengths of rings -/
/-- In how many ways rings of a length go together. -/
def matN (m : Nat) : Nat → Nat
  | 0 => 1
  | 1 => cond (Nat.beq (m % 2) 1) 1 0
  | k + 2 => cond (Nat.beq (m % 2) 1) (matN m (k + 1)) 0 + (k + 1) * m * matN m k
def prodF (R : List (List Nat)) : Nat → Nat → Nat → Option Nat
  | 0, _, a => some a
  | n + 1, m, a => cond (Nat.ble (a * matN m (cntN R m)) 1152921504606846976) (prodF R n (m + 1) (a * matN m (cntN R m))) none
def facF (m : Nat) : Nat → Nat → Nat → Option Nat
  | 0, _, a => some a
  | k + 1, i, a => cond (Nat.ble (a * (m * (i + 1))) 1152921504606846976) (facF m k (i + 1) (a * (m * (i + 1)))) none
def facA (R : List (List Nat)) : Nat → Nat → Nat → Option Nat
  | 0, _, a => some a
  | n + 1, m, a => match facF m (cntN R m) 0 a with
    | some a' => facA R n (m + 1) a'
    | none => none

/-! ### The program's search: 0 is a place not known, x + 1 the place x -/
def folF (t : List Nat) : Nat → List Nat → Nat → Nat → Option (Bool × List Nat)
  | 0, _, _, _ => none
  | f + 1, h, p, q => cond (Nat.beq (nth h p) (q + 1)) (some (true, h)) (cond (cond (Nat.blt 0 (nth h p)) true (hasN h (q + 1))) (some (false, h)) (folF t f (h.set p (q + 1)) q (nth t p)))
def putC (t : List Nat) (g : List Nat → Option (Bool × List Nat)) (p : Nat) (h : List Nat) : Nat → Nat → Option (Bool × List Nat)
  | 0, _ => some (false, h)
  | k + 1, q => match folF t 20 h p q with
    | some (true, h') => match g h' with
      | some (true, h2) => some (true, h2)
      | some (false, _) => putC t g p h k (q + 1)
      | none => none
    | some (false, _) => putC t g p h k (q + 1)
    | none => none
/-- d places are still to come. -/
def putF (t : List Nat) (n : Nat) : Nat → List Nat → Option (Bool × List Nat)
  | 0, h => some (true, h)
  | d + 1, h => cond (Nat.blt 0 (nth h (n - (d + 1)))) (putF t n d h) (putC t (putF t n d) (n - (d + 1)) h n 0)
def inc : List Nat → List Nat
  | [] => []
  | x :: r => (x + 1) :: inc r
def halfOk (t : List Nat) : List (List Nat) → Bool
  | [] => true
  | q :: _ => match putF t t.length t.length (List.replicate t.length 0) with
    | some (true, h) => eqN h (inc q)
    | _ => false
def chkH (t : List Nat) : Bool := match ringsP t with
  | some R => cond (eqO (prodF R 8 0 1) (halvesF t).length) (cond (halfOk t (halvesF t)) (eqO (facA R 8 0 1) (friendsF t).length) false) false
  | none => false
end Go.Am.Wash


/-
  Plain: halves and friends: tides of six places that begin with 0 are tried by the kernel. No statement of the seat is proved here.
-/
set_option linter.unusedVariables false
namespace Go.Am.Wash
theorem h6_01 : allP 6 chkH 4 [0, 1] = true := by kernel_rfl
theorem h6_02 : allP 6 chkH 4 [0, 2] = true := by kernel_rfl
theorem h6_03 : allP 6 chkH 4 [0, 3] = true := by kernel_rfl
theorem h6_04 : allP 6 chkH 4 [0, 4] = true := by kernel_rfl
theorem h6_05 : allP 6 chkH 4 [0, 5] = true := by kernel_rfl
theorem h6_0 : allP 6 chkH 5 [0] = true := allP_one 6 chkH 4 [0] fun y hy hb => match y, hy, hb with
  | 0, _, hb => absurd (by simp) hb
  | 1, _, _ => h6_01
  | 2, _, _ => h6_02
  | 3, _, _ => h6_03
  | 4, _, _ => h6_04
  | 5, _, _ => h6_05
end Go.Am.Wash


/-
  Plain: halves and friends: tides of six places that begin with 1 are tried by the kernel. No statement of the seat is proved here.
-/
set_option linter.unusedVariables false
namespace Go.Am.Wash
theorem h6_10 : allP 6 chkH 4 [1, 0] = true := by kernel_rfl
theorem h6_12 : allP 6 chkH 4 [1, 2] = true := by kernel_rfl
theorem h6_13 : allP 6 chkH 4 [1, 3] = true := by kernel_rfl
theorem h6_14 : allP 6 chkH 4 [1, 4] = true := by kernel_rfl
theorem h6_15 : allP 6 chkH 4 [1, 5] = true := by kernel_rfl
theorem h6_1 : allP 6 chkH 5 [1] = true := allP_one 6 chkH 4 [1] fun y hy hb => match y, hy, hb with
  | 0, _, _ => h6_10
  | 1, _, hb => absurd (by simp) hb
  | 2, _, _ => h6_12
  | 3, _, _ => h6_13
  | 4, _, _ => h6_14
  | 5, _, _ => h6_15
end Go.Am.Wash


/-
  Plain: halves and friends: tides of six places that begin with 2 are tried by the kernel. No statement of the seat is proved here.
-/
set_option linter.unusedVariables false
namespace Go.Am.Wash
theorem h6_20 : allP 6 chkH 4 [2, 0] = true := by kernel_rfl
theorem h6_21 : allP 6 chkH 4 [2, 1] = true := by kernel_rfl
theorem h6_23 : allP 6 chkH 4 [2, 3] = true := by kernel_rfl
theorem h6_24 : allP 6 chkH 4 [2, 4] = true := by kernel_rfl
theorem h6_25 : allP 6 chkH 4 [2, 5] = true := by kernel_rfl
theorem h6_2 : allP 6 chkH 5 [2] = true := allP_one 6 chkH 4 [2] fun y hy hb => match y, hy, hb with
  | 0, _, _ => h6_20
  | 1, _, _ => h6_21
  | 2, _, hb => absurd (by simp) hb
  | 3, _, _ => h6_23
  | 4, _, _ => h6_24
  | 5, _, _ => h6_25
end Go.Am.Wash


/-
  Plain: halves and friends: tides of six places that begin with 3 are tried by the kernel. No statement of the seat is proved here.
-/
set_option linter.unusedVariables false
namespace Go.Am.Wash
theorem h6_30 : allP 6 chkH 4 [3, 0] = true := by kernel_rfl
theorem h6_31 : allP 6 chkH 4 [3, 1] = true := by kernel_rfl
theorem h6_32 : allP 6 chkH 4 [3, 2] = true := by kernel_rfl
theorem h6_34 : allP 6 chkH 4 [3, 4] = true := by kernel_rfl
theorem h6_35 : allP 6 chkH 4 [3, 5] = true := by kernel_rfl
theorem h6_3 : allP 6 chkH 5 [3] = true := allP_one 6 chkH 4 [3] fun y hy hb => match y, hy, hb with
  | 0, _, _ => h6_30
  | 1, _, _ => h6_31
  | 2, _, _ => h6_32
  | 3, _, hb => absurd (by simp) hb
  | 4, _, _ => h6_34
  | 5, _, _ => h6_35
end Go.Am.Wash


/-
  Plain: halves and friends: tides of six places that begin with 4 are tried by the kernel. No statement of the seat is proved here.
-/
set_option linter.unusedVariables false
namespace Go.Am.Wash
theorem h6_40 : allP 6 chkH 4 [4, 0] = true := by kernel_rfl
theorem h6_41 : allP 6 chkH 4 [4, 1] = true := by kernel_rfl
theorem h6_42 : allP 6 chkH 4 [4, 2] = true := by kernel_rfl
theorem h6_43 : allP 6 chkH 4 [4, 3] = true := by kernel_rfl
theorem h6_45 : allP 6 chkH 4 [4, 5] = true := by kernel_rfl
theorem h6_4 : allP 6 chkH 5 [4] = true := allP_one 6 chkH 4 [4] fun y hy hb => match y, hy, hb with
  | 0, _, _ => h6_40
  | 1, _, _ => h6_41
  | 2, _, _ => h6_42
  | 3, _, _ => h6_43
  | 4, _, hb => absurd (by simp) hb
  | 5, _, _ => h6_45
end Go.Am.Wash


/-
  Plain: halves and friends: tides of six places that begin with 5 are tried by the kernel. No statement of the seat is proved here.
-/
set_option linter.unusedVariables false
namespace Go.Am.Wash
theorem h6_50 : allP 6 chkH 4 [5, 0] = true := by kernel_rfl
theorem h6_51 : allP 6 chkH 4 [5, 1] = true := by kernel_rfl
theorem h6_52 : allP 6 chkH 4 [5, 2] = true := by kernel_rfl
theorem h6_53 : allP 6 chkH 4 [5, 3] = true := by kernel_rfl
theorem h6_54 : allP 6 chkH 4 [5, 4] = true := by kernel_rfl
theorem h6_5 : allP 6 chkH 5 [5] = true := allP_one 6 chkH 4 [5] fun y hy hb => match y, hy, hb with
  | 0, _, _ => h6_50
  | 1, _, _ => h6_51
  | 2, _, _ => h6_52
  | 3, _, _ => h6_53
  | 4, _, _ => h6_54
  | 5, _, hb => absurd (by simp) hb
end Go.Am.Wash


/-
  Plain: halves and friends of all tides of at most six places were tried by the kernel. No statement of the seat is proved here.
-/
set_option linter.unusedVariables false
namespace Go.Am.Wash
theorem h1 : allP 1 chkH 1 [] = true := by kernel_rfl
theorem h2 : allP 2 chkH 2 [] = true := by kernel_rfl
theorem h3 : allP 3 chkH 3 [] = true := by kernel_rfl
theorem h4 : allP 4 chkH 4 [] = true := by kernel_rfl
theorem h5 : allP 5 chkH 5 [] = true := by kernel_rfl
theorem h6 : allP 6 chkH 6 [] = true := allP_one 6 chkH 5 [] fun y hy _ => match y, hy with
  | 0, _ => h6_0 | 1, _ => h6_1 | 2, _ => h6_2 | 3, _ => h6_3 | 4, _ => h6_4 | 5, _ => h6_5
theorem chkH_all {t : List Nat} (h : Tide t.length t) (h1' : 1 ≤ t.length) (h6' : t.length ≤ 6) : chkH t = true := by
  have hm : allP t.length chkH t.length [] = true := by
    match hn : t.length, h1', h6' with
    | 1, _, _ => exact h1
    | 2, _, _ => exact h2
    | 3, _, _ => exact h3
    | 4, _, _ => exact h4
    | 5, _, _ => exact h5
    | 6, _, _ => exact h6
  exact tide_all hm h
theorem eqO_ok {a : Option Nat} {b : Nat} (h : eqO a b = true) : a = some b := by
  cases a with
  | none => cases h
  | some x => rw [eqO] at h; rw [Nat.eq_of_beq_eq_true h]
theorem inc_map : ∀ l : List Nat, inc l = l.map (· + 1)
  | [] => rfl
  | x :: r => by rw [inc, inc_map r]; rfl
/-- What was tried. -/
structure Halved (t : List Nat) (R : List (List Nat)) : Prop where
  n : prodF R 8 0 1 = some (halvesF t).length
  first : ∀ q r, halvesF t = q :: r → putF t t.length t.length (List.replicate t.length 0) = some (true, q.map (· + 1))
  fr : facA R 8 0 1 = some (friendsF t).length
theorem halved {t : List Nat} (h : Tide t.length t) (h1 : 1 ≤ t.length) (h6 : t.length ≤ 6) {R : List (List Nat)} (hR : ringsP t = some R) : Halved t R := by
  have hc := chkH_all h h1 h6
  unfold chkH at hc
  simp only [hR] at hc
  obtain ⟨a, hc⟩ := cond_split hc
  obtain ⟨b, c⟩ := cond_split hc
  refine ⟨eqO_ok a, fun q r e => ?_, eqO_ok c⟩
  rw [e, halfOk] at b
  split at b
  · rename_i x hx
    rw [hx, eqN_ok _ _ b, inc_map]
  · cases b
end Go.Am.Wash


/-
  What functions of chapter 13 compute, 12: the reference's list of all tides; its halves and friends.
-/
set_option linter.unusedVariables false
set_option linter.unusedSimpArgs false
set_option maxRecDepth 10000
namespace Go.Am.Wash
open Go.Am.G

theorem permsC_len (n : Nat) (f : List Nat → List (List Nat)) (b : List Nat) (B : Nat) (h : ∀ y, (f (b ++ [y])).length ≤ B) (k : Nat) : ∀ x, (permsC n f b k x).length ≤ k * B := by
  induction k with
  | zero => intro x; simp [permsC]
  | succ k ih =>
    intro x
    have := ih (x + 1)
    have hx := h x
    rw [permsC, List.length_append, Nat.succ_mul]
    cases hasN b x
    · rw [cond_false]; omega
    · rw [cond_true, List.length_nil]; omega
theorem perms_len (n : Nat) (d : Nat) : ∀ b, (perms n d b).length ≤ n ^ d := by
  induction d with
  | zero => intro b; simp [perms]
  | succ d ih =>
    intro b
    rw [perms, Nat.pow_succ, Nat.mul_comm]
    exact permsC_len n _ b _ (fun y => ih _) n 0
theorem permsC_all (n : Nat) (f : List Nat → List (List Nat)) (b : List Nat) (P : List Nat → Prop) (k : Nat) : ∀ x, x + k ≤ n → (∀ y, y < n → ∀ q ∈ f (b ++ [y]), P q) → ∀ q ∈ permsC n f b k x, P q := by
  induction k with
  | zero => intro x _ _ q hq; simp [permsC] at hq
  | succ k ih =>
    intro x hx H q hq
    rw [permsC, List.mem_append] at hq
    rcases hq with hq | hq
    · cases c : hasN b x
      · rw [c] at hq; exact H x (by omega) q hq
      · rw [c] at hq; simp at hq
    · exact ih (x + 1) (by omega) H q hq
theorem perms_all (n : Nat) (d : Nat) : ∀ b : List Nat, (∀ x ∈ b, x < n) → ∀ q ∈ perms n d b, q.length = b.length + d ∧ ∀ x ∈ q, x < n := by
  induction d with
  | zero => intro b hb q hq; rw [perms, List.mem_singleton] at hq; subst hq; exact ⟨rfl, hb⟩
  | succ d ih =>
    intro b hb
    refine permsC_all n _ b _ n 0 (by omega) (fun y hy q hq => ?_)
    have := ih (b ++ [y]) (fun x hx => by
      rcases List.mem_append.1 hx with h | h
      · exact hb x h
      · rw [List.mem_singleton] at h; omega) q hq
    refine ⟨?_, this.2⟩
    rw [this.1]; simp; omega

end Go.Am.Wash


