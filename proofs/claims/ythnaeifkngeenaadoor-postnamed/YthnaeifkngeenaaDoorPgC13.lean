/-
  What functions of chapter 12 compute, 13: the most places that are apart; the law of the fewest posts.
-/
import Derived.Test.YthnaeifkngeenaaDoorPgC12
import Derived.Test.YthnaeifkngeenaaDoorPgC15
set_option linter.unusedVariables false
set_option linter.unusedSimpArgs false
set_option maxRecDepth 10000
namespace Go.Am.Post
open Go.Am.G

theorem most_bound (h : Nat → Nat) (d : Nat) : ∀ i met, mostM h d i met ≤ d := by
  induction d with
  | zero => intro i met; simp [mostM]
  | succ d ih =>
    intro i met
    rw [mostM]
    have h1 := ih (i + 1) (met ||| h i)
    have h2 := ih (i + 1) met
    split <;> omega
/-- The variables that the function that counts holds. -/
abbrev mostF : LV := .func n_post_Apart_1 [] [.ptr 0 0 1, .ptr 1 0 1, .ptr 2 0 1]
structure AMem (nl ex : Bool) (sz : Nat) (s : List Int) (m : LMem) : Prop where
  h0 : ∃ b, m[0]? = some ⟨[IL nl ex sz s], b⟩
  h1 : ∃ b, m[1]? = some ⟨[UH (handsV s)], b⟩
  h2 : ∃ b, m[2]? = some ⟨[mostF], b⟩
theorem AMem.ro {nl ex : Bool} {sz : Nat} {s : List Int} {m : LMem} (H : AMem nl ex sz s m) : AMem nl ex sz s (roM m) := by
  obtain ⟨⟨b0, h0⟩, ⟨b1, h1⟩, b2, h2⟩ := H
  refine ⟨⟨false, ?_⟩, ⟨false, ?_⟩, ⟨false, ?_⟩⟩ <;> simp [roM, h0, h1, h2]
theorem AMem.len {nl ex : Bool} {sz : Nat} {s : List Int} {m : LMem} (H : AMem nl ex sz s m) : 3 ≤ m.length := by
  obtain ⟨b2, h2⟩ := H.h2
  rw [List.getElem?_eq_some_iff] at h2; have := h2.1; omega
theorem most_loop (nl ex : Bool) (sz : Nat) {s : List Int} (K : OkS s) (met : Nat) (hmet : met < 1024) (m : LMem) (H : AMem nl ex sz s m) (from' : Nat)
    (hc : ∀ j met' : Nat, from' < j → j ≤ s.length → met' < 1024 → clF LP n_post_Apart_1 [.int .i64 (j : Int), .int .u64 (met' : Int), .ptr 0 0 1, .ptr 1 0 1, .ptr 2 0 1] m = some (.R, .int .i64 (mostM (hd s) (s.length - j) j met' : Int), m)) (n : Nat) : ∀ (i out : Nat), i + n = s.length → from' ≤ i → out ≤ 100 →
    exF LP post_Apart_1.L0 [(1, .int .u64 (met : Int)), (2, .ptr 0 0 1), (3, .ptr 1 0 1), (4, .ptr 2 0 1), (8, .int .i64 (out : Int)), (9, .int .i64 (i : Int))] m = some (.exit 0, [(8, .int .i64 ((max out (mostM (hd s) n i met) : Nat) : Int))], m) := by
  have hl3 := H.len
  obtain ⟨⟨b0, h0⟩, ⟨b1, h1⟩, b2, h2⟩ := H
  have h10 := K.le
  have hlv := handsV_length s
  have n0 : ¬ m.length ≤ 0 := by omega
  have n1 : ¬ m.length ≤ 1 := by omega
  have n2 : ¬ m.length ≤ 2 := by omega
  induction n with
  | zero =>
    intro i out hi hf ho
    rw [post_Apart_1.L0_eq]
    simp only [post_Apart_1.B0, beqT, beqF, exF_seq, exF_region, exF_block, exF_cond, exF_ret, exF_exit, exF_skip, runL, wantL, stepL, evL, evC, LEnv.at, putL, loadFine, loadL, cellsAt, Trk.putNew, Trk.up, Trk.touch, Trk.gives, Trk.calm, Trk.hit, opdsOf, Trk.fresh, LEnv.keep, LEnv.ofFrom, List.map_cons, List.map_nil, nbeq, nble, nblt, ofAV, ofAVs, lenL, bin_add, bin_sub, bin_mul, bin_eql, bin_neq, bin_lss, bin_leq, bin_gtr, bin_geq, natL_nat, natL_zero, natL_one, natL_two, Nat.zero_mul, List.any_cons, List.any_nil, Bool.or_false, Bool.false_or, Bool.true_or, Bool.or_true, Bool.and_true, Bool.true_and, Bool.and_false, Bool.false_and, Bool.not_true, Bool.not_false, Nat.reduceBEq, Nat.reduceEqDiff, decide_true, decide_false, cond_true, cond_false, List.filter_nil, List.filter_cons, Nat.reduceAdd, Nat.reduceLeDiff, reduceCtorEq, List.length_nil, List.length_cons, Nat.mul_one, if_true, if_false, Bool.false_eq_true, eq_self, and_true, true_and, retL, resultsL, resAllL, resOfL, List.append_nil, List.nil_append, List.cons_append, true_or, or_true, false_or, or_false, false_and, and_false, not_true_eq_false, not_false_eq_true, ne_eq, unL, trim_nil, views_pures, LV.pures, LV.pure, freeze, Nat.reduceDiv, Int.reduceEq, Int.reduceLT, Int.reduceLE, Int.natCast_zero, LV.cells, allocL, List.getElem?_cons_zero, List.getElem?_cons_succ, storeL, spliceL, List.take_zero, List.take_succ_cons, List.drop_zero, List.drop_succ_cons, List.drop_nil, List.take_nil, Nat.le_refl, Nat.reduceMul, List.set_cons_zero, List.set_cons_succ, LV.scalar, List.all_cons, List.all_nil, Nat.lt_add_one, Nat.zero_lt_one, Nat.reduceLT, Nat.lt_irrefl, fillL, List.length_append, foldIntL, kind_beq, pures_int, solids_int, plains_int, unders_int, scalars_int, h0, show ¬ ((i : Int) < (s.length : Int)) by omega, mostM, Nat.max_zero]
  | succ n ih =>
    intro i out hi hf ho
    have hi2 : i < (handsV s).length := by omega
    have hx := hd_lt K i
    have hn := nats_getD (handsV s) i hi2
    change (nats (handsV s))[i]? = some (.int .u64 (hd s i : Nat)) at hn
    have o1 := bits_and (show hd s i < 18446744073709551616 by omega) (show met < 18446744073709551616 by omega)
    have o2 := bits_or (show met < 18446744073709551616 by omega) (show hd s i < 18446744073709551616 by omega)
    rw [post_Apart_1.L0_eq, mostM]
    by_cases c : hd s i &&& met = 0
    · have hcc := hc (i + 1) (met ||| hd s i) (by omega) (by omega) (or_lt hmet hx)
      rw [show s.length - (i + 1) = n by omega] at hcc
      have hb := most_bound (hd s) n (i + 1) (met ||| hd s i)
      have ih := ih (i + 1) (max out (1 + mostM (hd s) n (i + 1) (met ||| hd s i))) (by omega) (by omega) (by omega)
      have hmx : max (max out (1 + mostM (hd s) n (i + 1) (met ||| hd s i))) (mostM (hd s) n (i + 1) met) = max out (max (1 + mostM (hd s) n (i + 1) (met ||| hd s i)) (mostM (hd s) n (i + 1) met)) := by omega
      rw [hmx] at ih
      rw [if_pos c]
      generalize mostM (hd s) n (i + 1) (met ||| hd s i) = q at *
      have hw : IntKind.i64.wrap (1 + (q : Int)) = 1 + (q : Int) := wrap_in (by omega)
      have hm2 : (if 1 + (q : Int) > (out : Int) then 1 + (q : Int) else (out : Int)) = ((max out (1 + q) : Nat) : Int) := by split <;> omega
      simp only [post_Apart_1.B0, beqT, beqF, exF_seq, exF_region, exF_block, exF_cond, exF_ret, exF_exit, exF_skip, runL, wantL, stepL, evL, evC, LEnv.at, putL, loadFine, loadL, cellsAt, Trk.putNew, Trk.up, Trk.touch, Trk.gives, Trk.calm, Trk.hit, opdsOf, Trk.fresh, LEnv.keep, LEnv.ofFrom, List.map_cons, List.map_nil, nbeq, nble, nblt, ofAV, ofAVs, lenL, bin_add, bin_sub, bin_mul, bin_eql, bin_neq, bin_lss, bin_leq, bin_gtr, bin_geq, natL_nat, natL_zero, natL_one, natL_two, Nat.zero_mul, List.any_cons, List.any_nil, Bool.or_false, Bool.false_or, Bool.true_or, Bool.or_true, Bool.and_true, Bool.true_and, Bool.and_false, Bool.false_and, Bool.not_true, Bool.not_false, Nat.reduceBEq, Nat.reduceEqDiff, decide_true, decide_false, cond_true, cond_false, List.filter_nil, List.filter_cons, Nat.reduceAdd, Nat.reduceLeDiff, reduceCtorEq, List.length_nil, List.length_cons, Nat.mul_one, if_true, if_false, Bool.false_eq_true, eq_self, and_true, true_and, retL, resultsL, resAllL, resOfL, List.append_nil, List.nil_append, List.cons_append, true_or, or_true, false_or, or_false, false_and, and_false, not_true_eq_false, not_false_eq_true, ne_eq, unL, trim_nil, views_pures, LV.pures, LV.pure, freeze, Nat.reduceDiv, Int.reduceEq, Int.reduceLT, Int.reduceLE, Int.natCast_zero, LV.cells, allocL, List.getElem?_cons_zero, List.getElem?_cons_succ, storeL, spliceL, List.take_zero, List.take_succ_cons, List.drop_zero, List.drop_succ_cons, List.drop_nil, List.take_nil, Nat.le_refl, Nat.reduceMul, List.set_cons_zero, List.set_cons_succ, LV.scalar, List.all_cons, List.all_nil, Nat.lt_add_one, Nat.zero_lt_one, Nat.reduceLT, Nat.lt_irrefl, fillL, List.length_append, foldIntL, kind_beq, pures_int, solids_int, plains_int, unders_int, scalars_int, h0, h1, h2, n0, n1, n2, show ((i : Int) < (s.length : Int)) by omega, hi2, hn, o1, c, o2, wrap_succ (show i + 1 < 9223372036854775808 by omega), hcc, hw, hm2, ih]
    · have c' : ¬ ((hd s i &&& met : Nat) : Int) = 0 := by omega
      rw [if_neg c]
      have ih := ih (i + 1) out (by omega) (by omega) ho
      simp only [post_Apart_1.B0, beqT, beqF, exF_seq, exF_region, exF_block, exF_cond, exF_ret, exF_exit, exF_skip, runL, wantL, stepL, evL, evC, LEnv.at, putL, loadFine, loadL, cellsAt, Trk.putNew, Trk.up, Trk.touch, Trk.gives, Trk.calm, Trk.hit, opdsOf, Trk.fresh, LEnv.keep, LEnv.ofFrom, List.map_cons, List.map_nil, nbeq, nble, nblt, ofAV, ofAVs, lenL, bin_add, bin_sub, bin_mul, bin_eql, bin_neq, bin_lss, bin_leq, bin_gtr, bin_geq, natL_nat, natL_zero, natL_one, natL_two, Nat.zero_mul, List.any_cons, List.any_nil, Bool.or_false, Bool.false_or, Bool.true_or, Bool.or_true, Bool.and_true, Bool.true_and, Bool.and_false, Bool.false_and, Bool.not_true, Bool.not_false, Nat.reduceBEq, Nat.reduceEqDiff, decide_true, decide_false, cond_true, cond_false, List.filter_nil, List.filter_cons, Nat.reduceAdd, Nat.reduceLeDiff, reduceCtorEq, List.length_nil, List.length_cons, Nat.mul_one, if_true, if_false, Bool.false_eq_true, eq_self, and_true, true_and, retL, resultsL, resAllL, resOfL, List.append_nil, List.nil_append, List.cons_append, true_or, or_true, false_or, or_false, false_and, and_false, not_true_eq_false, not_false_eq_true, ne_eq, unL, trim_nil, views_pures, LV.pures, LV.pure, freeze, Nat.reduceDiv, Int.reduceEq, Int.reduceLT, Int.reduceLE, Int.natCast_zero, LV.cells, allocL, List.getElem?_cons_zero, List.getElem?_cons_succ, storeL, spliceL, List.take_zero, List.take_succ_cons, List.drop_zero, List.drop_succ_cons, List.drop_nil, List.take_nil, Nat.le_refl, Nat.reduceMul, List.set_cons_zero, List.set_cons_succ, LV.scalar, List.all_cons, List.all_nil, Nat.lt_add_one, Nat.zero_lt_one, Nat.reduceLT, Nat.lt_irrefl, fillL, List.length_append, foldIntL, kind_beq, pures_int, solids_int, plains_int, unders_int, scalars_int, h0, h1, h2, n0, n1, n2, show ((i : Int) < (s.length : Int)) by omega, hi2, hn, o1, c', wrap_succ (show i + 1 < 9223372036854775808 by omega), ih]
theorem most_c (nl ex : Bool) (sz : Nat) {s : List Int} (K : OkS s) (d : Nat) : ∀ (i met : Nat) (m : LMem), i + d = s.length → met < 1024 → AMem nl ex sz s m →
    clF LP n_post_Apart_1 [.int .i64 (i : Int), .int .u64 (met : Int), .ptr 0 0 1, .ptr 1 0 1, .ptr 2 0 1] m = some (.R, .int .i64 (mostM (hd s) d i met : Int), m) := by
  induction d using Nat.strongRecOn with
  | ind d ih =>
    intro i met m hi hmet H
    have hl := most_loop nl ex sz K met hmet (roM m) H.ro i (fun j met' hj hj2 hm' => ih (s.length - j) (by omega) j met' (roM m) (by omega) hm' H.ro) d i 0 hi (Nat.le_refl _) (by omega)
    rw [Nat.zero_max] at hl
    simp only [Int.natCast_zero] at hl
    refine call_R lp_post_Apart_1 rfl (m1 := roM m) ?_ rfl
    simp only [post_Apart_1, post_Apart_1.B, beqT, beqF, exF_seq, exF_region, exF_block, exF_cond, exF_ret, exF_exit, exF_skip, runL, wantL, stepL, evL, evC, LEnv.at, putL, loadFine, loadL, cellsAt, Trk.putNew, Trk.up, Trk.touch, Trk.gives, Trk.calm, Trk.hit, opdsOf, Trk.fresh, LEnv.keep, LEnv.ofFrom, List.map_cons, List.map_nil, nbeq, nble, nblt, ofAV, ofAVs, lenL, bin_add, bin_sub, bin_mul, bin_eql, bin_neq, bin_lss, bin_leq, bin_gtr, bin_geq, natL_nat, natL_zero, natL_one, natL_two, Nat.zero_mul, List.any_cons, List.any_nil, Bool.or_false, Bool.false_or, Bool.true_or, Bool.or_true, Bool.and_true, Bool.true_and, Bool.and_false, Bool.false_and, Bool.not_true, Bool.not_false, Nat.reduceBEq, Nat.reduceEqDiff, decide_true, decide_false, cond_true, cond_false, List.filter_nil, List.filter_cons, Nat.reduceAdd, Nat.reduceLeDiff, reduceCtorEq, List.length_nil, List.length_cons, Nat.mul_one, if_true, if_false, Bool.false_eq_true, eq_self, and_true, true_and, retL, resultsL, resAllL, resOfL, List.append_nil, List.nil_append, List.cons_append, true_or, or_true, false_or, or_false, false_and, and_false, not_true_eq_false, not_false_eq_true, ne_eq, unL, trim_nil, views_pures, LV.pures, LV.pure, freeze, Nat.reduceDiv, Int.reduceEq, Int.reduceLT, Int.reduceLE, Int.natCast_zero, LV.cells, allocL, List.getElem?_cons_zero, List.getElem?_cons_succ, storeL, spliceL, List.take_zero, List.take_succ_cons, List.drop_zero, List.drop_succ_cons, List.drop_nil, List.take_nil, Nat.le_refl, Nat.reduceMul, List.set_cons_zero, List.set_cons_succ, LV.scalar, List.all_cons, List.all_nil, Nat.lt_add_one, Nat.zero_lt_one, Nat.reduceLT, Nat.lt_irrefl, fillL, List.length_append, foldIntL, kind_beq, pures_int, solids_int, plains_int, unders_int, scalars_int, hl]
abbrev APre (nl ex : Bool) (sz : Nat) (s : List Int) : LMem := [⟨[IL nl ex sz s], true⟩, ⟨[UH (handsV s)], true⟩, ⟨[mostF], true⟩]
theorem AMem_pre (nl ex : Bool) (sz : Nat) (s : List Int) (r : LMem) : AMem nl ex sz s (⟨[IL nl ex sz s], true⟩ :: ⟨[UH (handsV s)], true⟩ :: ⟨[mostF], true⟩ :: r) := ⟨⟨true, rfl⟩, ⟨true, rfl⟩, ⟨true, rfl⟩⟩
theorem apart_loop (nl ex : Bool) (sz : Nat) {s : List Int} (K : OkS s) (n : Nat) : ∀ (i met : Nat) (l : List Nat), i + n = s.length → met < 1024 → l.length ≤ i →
    exF LP post_Apart.L0 [(5, .ptr 1 0 1), (6, .ptr 2 0 1), (7, GV 3 (ci l)), (8, .int .u64 (met : Int)), (19, .int .i64 (s.length : Int)), (20, .int .i64 (i : Int))] (APre nl ex sz s ++ GM (ci l)) =
      some (.exit 0, [(7, GV 3 (ci (l ++ grM (hd s) n i met)))], APre nl ex sz s ++ GM (ci (l ++ grM (hd s) n i met))) := by
  have h10 := K.le
  have hlv := handsV_length s
  induction n with
  | zero =>
    intro i met l hi hmet hl
    rw [post_Apart.L0_eq]
    simp only [post_Apart.B0, beqT, beqF, exF_seq, exF_region, exF_block, exF_cond, exF_ret, exF_exit, exF_skip, runL, wantL, stepL, evL, evC, LEnv.at, putL, loadFine, loadL, cellsAt, Trk.putNew, Trk.up, Trk.touch, Trk.gives, Trk.calm, Trk.hit, opdsOf, Trk.fresh, LEnv.keep, LEnv.ofFrom, List.map_cons, List.map_nil, nbeq, nble, nblt, ofAV, ofAVs, lenL, bin_add, bin_sub, bin_mul, bin_eql, bin_neq, bin_lss, bin_leq, bin_gtr, bin_geq, natL_nat, natL_zero, natL_one, natL_two, Nat.zero_mul, List.any_cons, List.any_nil, Bool.or_false, Bool.false_or, Bool.true_or, Bool.or_true, Bool.and_true, Bool.true_and, Bool.and_false, Bool.false_and, Bool.not_true, Bool.not_false, Nat.reduceBEq, Nat.reduceEqDiff, decide_true, decide_false, cond_true, cond_false, List.filter_nil, List.filter_cons, Nat.reduceAdd, Nat.reduceLeDiff, reduceCtorEq, List.length_nil, List.length_cons, Nat.mul_one, if_true, if_false, Bool.false_eq_true, eq_self, and_true, true_and, retL, resultsL, resAllL, resOfL, List.append_nil, List.nil_append, List.cons_append, true_or, or_true, false_or, or_false, false_and, and_false, not_true_eq_false, not_false_eq_true, ne_eq, unL, trim_nil, views_pures, LV.pures, LV.pure, freeze, Nat.reduceDiv, Int.reduceEq, Int.reduceLT, Int.reduceLE, Int.natCast_zero, LV.cells, allocL, List.getElem?_cons_zero, List.getElem?_cons_succ, storeL, spliceL, List.take_zero, List.take_succ_cons, List.drop_zero, List.drop_succ_cons, List.drop_nil, List.take_nil, Nat.le_refl, Nat.reduceMul, List.set_cons_zero, List.set_cons_succ, LV.scalar, List.all_cons, List.all_nil, Nat.lt_add_one, Nat.zero_lt_one, Nat.reduceLT, Nat.lt_irrefl, fillL, List.length_append, foldIntL, kind_beq, pures_int, solids_int, plains_int, unders_int, scalars_int, show ¬ ((i : Int) < (s.length : Int)) by omega, grM]
  | succ n ih =>
    intro i met l hi hmet hl
    have hi2 : i < (handsV s).length := by omega
    have hx := hd_lt K i
    have hn := nats_getD (handsV s) i hi2
    change (nats (handsV s))[i]? = some (.int .u64 (hd s i : Nat)) at hn
    have o1 := bits_and (show hd s i < 18446744073709551616 by omega) (show met < 18446744073709551616 by omega)
    have o2 := bits_or (show met < 18446744073709551616 by omega) (show hd s i < 18446744073709551616 by omega)
    have m1 := most_c nl ex sz K n (i + 1) (met ||| hd s i) _ (by omega) (or_lt hmet hx) (AMem_pre nl ex sz s (GM (ci l)))
    have m2 := most_c nl ex sz K (n + 1) i met _ hi hmet (AMem_pre nl ex sz s (GM (ci l)))
    have hb := most_bound (hd s) n (i + 1) (met ||| hd s i)
    rw [post_Apart.L0_eq, grM]
    by_cases c : hd s i &&& met = 0
    · have hw : IntKind.i64.wrap (1 + (mostM (hd s) n (i + 1) (met ||| hd s i) : Int)) = ((1 + mostM (hd s) n (i + 1) (met ||| hd s i) : Nat) : Int) := by rw [wrap_in (by omega)]; omega
      by_cases c2 : 1 + mostM (hd s) n (i + 1) (met ||| hd s i) = mostM (hd s) (n + 1) i met
      · rw [if_pos ⟨c, c2⟩]
        have ih := ih (i + 1) (met ||| hd s i) (l ++ [i]) (by omega) (or_lt hmet hx) (by simp; omega)
        have ap := append_grow (APre nl ex sz s) (ci l) (i : Int) true (by simp; omega)
        have e : ci l ++ [(i : Int)] = ci (l ++ [i]) := by simp
        rw [e] at ap
        simp only [List.cons_append, List.nil_append, List.append_assoc, List.length_cons, List.length_nil, Nat.reduceAdd] at ap ih
        rw [c2] at hw
        generalize mostM (hd s) (n + 1) i met = q at *
        generalize mostM (hd s) n (i + 1) (met ||| hd s i) = q' at *
        by_cases hnil : ci l = []
        · rw [hnil, GV_nil, GM_nil] at ap
          simp only [hnil, GV_nil, GM_nil] at m1 m2 ⊢
          simp only [post_Apart.B0, beqT, beqF, exF_seq, exF_region, exF_block, exF_cond, exF_ret, exF_exit, exF_skip, runL, wantL, stepL, evL, evC, LEnv.at, putL, loadFine, loadL, cellsAt, Trk.putNew, Trk.up, Trk.touch, Trk.gives, Trk.calm, Trk.hit, opdsOf, Trk.fresh, LEnv.keep, LEnv.ofFrom, List.map_cons, List.map_nil, nbeq, nble, nblt, ofAV, ofAVs, lenL, bin_add, bin_sub, bin_mul, bin_eql, bin_neq, bin_lss, bin_leq, bin_gtr, bin_geq, natL_nat, natL_zero, natL_one, natL_two, Nat.zero_mul, List.any_cons, List.any_nil, Bool.or_false, Bool.false_or, Bool.true_or, Bool.or_true, Bool.and_true, Bool.true_and, Bool.and_false, Bool.false_and, Bool.not_true, Bool.not_false, Nat.reduceBEq, Nat.reduceEqDiff, decide_true, decide_false, cond_true, cond_false, List.filter_nil, List.filter_cons, Nat.reduceAdd, Nat.reduceLeDiff, reduceCtorEq, List.length_nil, List.length_cons, Nat.mul_one, if_true, if_false, Bool.false_eq_true, eq_self, and_true, true_and, retL, resultsL, resAllL, resOfL, List.append_nil, List.nil_append, List.cons_append, true_or, or_true, false_or, or_false, false_and, and_false, not_true_eq_false, not_false_eq_true, ne_eq, unL, trim_nil, views_pures, LV.pures, LV.pure, freeze, Nat.reduceDiv, Int.reduceEq, Int.reduceLT, Int.reduceLE, Int.natCast_zero, LV.cells, allocL, List.getElem?_cons_zero, List.getElem?_cons_succ, storeL, spliceL, List.take_zero, List.take_succ_cons, List.drop_zero, List.drop_succ_cons, List.drop_nil, List.take_nil, Nat.le_refl, Nat.reduceMul, List.set_cons_zero, List.set_cons_succ, LV.scalar, List.all_cons, List.all_nil, Nat.lt_add_one, Nat.zero_lt_one, Nat.reduceLT, Nat.lt_irrefl, fillL, List.length_append, foldIntL, kind_beq, pures_int, solids_int, plains_int, unders_int, scalars_int, hi2, hn, o1, c, o2, show ((i : Int) < (s.length : Int)) by omega, wrap_succ (show i + 1 < 9223372036854775808 by omega), m1, m2, hw, ap, ih]
        · have hGV : GV 3 (ci l) = .sl 3 0 (ci l).length (ci l).length 1 1 (ci l).length := by simp only [GV, if_neg hnil]
          have hGM : GM (ci l) = [⟨(ci l).map (LV.int .i64), true⟩] := by simp only [GM, if_neg hnil]
          rw [hGV, hGM] at ap
          rw [hGM] at m1 m2
          rw [hGV, hGM]
          simp only [post_Apart.B0, beqT, beqF, exF_seq, exF_region, exF_block, exF_cond, exF_ret, exF_exit, exF_skip, runL, wantL, stepL, evL, evC, LEnv.at, putL, loadFine, loadL, cellsAt, Trk.putNew, Trk.up, Trk.touch, Trk.gives, Trk.calm, Trk.hit, opdsOf, Trk.fresh, LEnv.keep, LEnv.ofFrom, List.map_cons, List.map_nil, nbeq, nble, nblt, ofAV, ofAVs, lenL, bin_add, bin_sub, bin_mul, bin_eql, bin_neq, bin_lss, bin_leq, bin_gtr, bin_geq, natL_nat, natL_zero, natL_one, natL_two, Nat.zero_mul, List.any_cons, List.any_nil, Bool.or_false, Bool.false_or, Bool.true_or, Bool.or_true, Bool.and_true, Bool.true_and, Bool.and_false, Bool.false_and, Bool.not_true, Bool.not_false, Nat.reduceBEq, Nat.reduceEqDiff, decide_true, decide_false, cond_true, cond_false, List.filter_nil, List.filter_cons, Nat.reduceAdd, Nat.reduceLeDiff, reduceCtorEq, List.length_nil, List.length_cons, Nat.mul_one, if_true, if_false, Bool.false_eq_true, eq_self, and_true, true_and, retL, resultsL, resAllL, resOfL, List.append_nil, List.nil_append, List.cons_append, true_or, or_true, false_or, or_false, false_and, and_false, not_true_eq_false, not_false_eq_true, ne_eq, unL, trim_nil, views_pures, LV.pures, LV.pure, freeze, Nat.reduceDiv, Int.reduceEq, Int.reduceLT, Int.reduceLE, Int.natCast_zero, LV.cells, allocL, List.getElem?_cons_zero, List.getElem?_cons_succ, storeL, spliceL, List.take_zero, List.take_succ_cons, List.drop_zero, List.drop_succ_cons, List.drop_nil, List.take_nil, Nat.le_refl, Nat.reduceMul, List.set_cons_zero, List.set_cons_succ, LV.scalar, List.all_cons, List.all_nil, Nat.lt_add_one, Nat.zero_lt_one, Nat.reduceLT, Nat.lt_irrefl, fillL, List.length_append, foldIntL, kind_beq, pures_int, solids_int, plains_int, unders_int, scalars_int, hi2, hn, o1, c, o2, show ((i : Int) < (s.length : Int)) by omega, wrap_succ (show i + 1 < 9223372036854775808 by omega), m1, m2, hw, ap, ih]
      · rw [if_neg (fun h => c2 h.2)]
        have ih := ih (i + 1) met l (by omega) hmet (by omega)
        have c2' : ¬ ((1 + mostM (hd s) n (i + 1) (met ||| hd s i) : Nat) : Int) = (mostM (hd s) (n + 1) i met : Int) := by omega
        simp only [post_Apart.B0, beqT, beqF, exF_seq, exF_region, exF_block, exF_cond, exF_ret, exF_exit, exF_skip, runL, wantL, stepL, evL, evC, LEnv.at, putL, loadFine, loadL, cellsAt, Trk.putNew, Trk.up, Trk.touch, Trk.gives, Trk.calm, Trk.hit, opdsOf, Trk.fresh, LEnv.keep, LEnv.ofFrom, List.map_cons, List.map_nil, nbeq, nble, nblt, ofAV, ofAVs, lenL, bin_add, bin_sub, bin_mul, bin_eql, bin_neq, bin_lss, bin_leq, bin_gtr, bin_geq, natL_nat, natL_zero, natL_one, natL_two, Nat.zero_mul, List.any_cons, List.any_nil, Bool.or_false, Bool.false_or, Bool.true_or, Bool.or_true, Bool.and_true, Bool.true_and, Bool.and_false, Bool.false_and, Bool.not_true, Bool.not_false, Nat.reduceBEq, Nat.reduceEqDiff, decide_true, decide_false, cond_true, cond_false, List.filter_nil, List.filter_cons, Nat.reduceAdd, Nat.reduceLeDiff, reduceCtorEq, List.length_nil, List.length_cons, Nat.mul_one, if_true, if_false, Bool.false_eq_true, eq_self, and_true, true_and, retL, resultsL, resAllL, resOfL, List.append_nil, List.nil_append, List.cons_append, true_or, or_true, false_or, or_false, false_and, and_false, not_true_eq_false, not_false_eq_true, ne_eq, unL, trim_nil, views_pures, LV.pures, LV.pure, freeze, Nat.reduceDiv, Int.reduceEq, Int.reduceLT, Int.reduceLE, Int.natCast_zero, LV.cells, allocL, List.getElem?_cons_zero, List.getElem?_cons_succ, storeL, spliceL, List.take_zero, List.take_succ_cons, List.drop_zero, List.drop_succ_cons, List.drop_nil, List.take_nil, Nat.le_refl, Nat.reduceMul, List.set_cons_zero, List.set_cons_succ, LV.scalar, List.all_cons, List.all_nil, Nat.lt_add_one, Nat.zero_lt_one, Nat.reduceLT, Nat.lt_irrefl, fillL, List.length_append, foldIntL, kind_beq, pures_int, solids_int, plains_int, unders_int, scalars_int, hi2, hn, o1, c, o2, show ((i : Int) < (s.length : Int)) by omega, wrap_succ (show i + 1 < 9223372036854775808 by omega), m1, m2, hw, c2', Nat.reduceLeDiff, show ¬ ((GM (ci l)).length + 1 + 1 + 1 ≤ 1) by omega, show ¬ ((GM (ci l)).length + 1 + 1 + 1 ≤ 2) by omega] at ih ⊢
        exact ih
    · rw [if_neg (fun h => c h.1)]
      have c' : ¬ ((hd s i &&& met : Nat) : Int) = 0 := by omega
      have ih := ih (i + 1) met l (by omega) hmet (by omega)
      simp only [post_Apart.B0, beqT, beqF, exF_seq, exF_region, exF_block, exF_cond, exF_ret, exF_exit, exF_skip, runL, wantL, stepL, evL, evC, LEnv.at, putL, loadFine, loadL, cellsAt, Trk.putNew, Trk.up, Trk.touch, Trk.gives, Trk.calm, Trk.hit, opdsOf, Trk.fresh, LEnv.keep, LEnv.ofFrom, List.map_cons, List.map_nil, nbeq, nble, nblt, ofAV, ofAVs, lenL, bin_add, bin_sub, bin_mul, bin_eql, bin_neq, bin_lss, bin_leq, bin_gtr, bin_geq, natL_nat, natL_zero, natL_one, natL_two, Nat.zero_mul, List.any_cons, List.any_nil, Bool.or_false, Bool.false_or, Bool.true_or, Bool.or_true, Bool.and_true, Bool.true_and, Bool.and_false, Bool.false_and, Bool.not_true, Bool.not_false, Nat.reduceBEq, Nat.reduceEqDiff, decide_true, decide_false, cond_true, cond_false, List.filter_nil, List.filter_cons, Nat.reduceAdd, Nat.reduceLeDiff, reduceCtorEq, List.length_nil, List.length_cons, Nat.mul_one, if_true, if_false, Bool.false_eq_true, eq_self, and_true, true_and, retL, resultsL, resAllL, resOfL, List.append_nil, List.nil_append, List.cons_append, true_or, or_true, false_or, or_false, false_and, and_false, not_true_eq_false, not_false_eq_true, ne_eq, unL, trim_nil, views_pures, LV.pures, LV.pure, freeze, Nat.reduceDiv, Int.reduceEq, Int.reduceLT, Int.reduceLE, Int.natCast_zero, LV.cells, allocL, List.getElem?_cons_zero, List.getElem?_cons_succ, storeL, spliceL, List.take_zero, List.take_succ_cons, List.drop_zero, List.drop_succ_cons, List.drop_nil, List.take_nil, Nat.le_refl, Nat.reduceMul, List.set_cons_zero, List.set_cons_succ, LV.scalar, List.all_cons, List.all_nil, Nat.lt_add_one, Nat.zero_lt_one, Nat.reduceLT, Nat.lt_irrefl, fillL, List.length_append, foldIntL, kind_beq, pures_int, solids_int, plains_int, unders_int, scalars_int, hi2, hn, o1, c', o2, show ((i : Int) < (s.length : Int)) by omega, wrap_succ (show i + 1 < 9223372036854775808 by omega), show ¬ ((GM (ci l)).length + 1 + 1 + 1 ≤ 1) by omega, show ¬ ((GM (ci l)).length + 1 + 1 + 1 ≤ 2) by omega] at ih ⊢
      exact ih
def aptV (s : List Int) : List Nat := if chkS s = 0 then grM (hd s) s.length 0 0 else []
theorem apartP_c (nl ex : Bool) (sz : Nat) (s : List Int) (hs : s.length < 1000000) (m : LMem) : clF LP n_post_Apart [IL nl ex sz s] m = some (.P, .tup [RLn (aptV s), .int .i64 (chkS s)], m) := by
  have hc := fun m => check_c nl ex sz s hs m
  unfold aptV
  by_cases h1 : chkS s = 0
  · have K := okS_of h1
    have hh := fun m => hands_c nl ex sz K m
    have hl := apart_loop nl ex sz K s.length 0 0 [] (by omega) (by omega) (by simp)
    simp only [List.nil_append, Int.natCast_zero, List.map_nil, GV_nil, GM_nil, List.append_nil] at hl
    rw [if_pos h1]
    have hv := view_gv2 (APre nl ex sz s ++ GM (ci (grM (hd s) s.length 0 0))) 3 (ci (grM (hd s) s.length 0 0)) (.int .i64 (chkS s)) rfl true (fun h => by simp [GM, h])
    refine call_Pv lp_post_Apart rfl (by simp [LV.pures, LV.pure]) ?_ hv m
    simp only [List.cons_append, List.nil_append] at hl ⊢
    simp only [post_Apart, post_Apart.B, beqT, beqF, exF_seq, exF_region, exF_block, exF_cond, exF_ret, exF_exit, exF_skip, runL, wantL, stepL, evL, evC, LEnv.at, putL, loadFine, loadL, cellsAt, Trk.putNew, Trk.up, Trk.touch, Trk.gives, Trk.calm, Trk.hit, opdsOf, Trk.fresh, LEnv.keep, LEnv.ofFrom, List.map_cons, List.map_nil, nbeq, nble, nblt, ofAV, ofAVs, lenL, bin_add, bin_sub, bin_mul, bin_eql, bin_neq, bin_lss, bin_leq, bin_gtr, bin_geq, natL_nat, natL_zero, natL_one, natL_two, Nat.zero_mul, List.any_cons, List.any_nil, Bool.or_false, Bool.false_or, Bool.true_or, Bool.or_true, Bool.and_true, Bool.true_and, Bool.and_false, Bool.false_and, Bool.not_true, Bool.not_false, Nat.reduceBEq, Nat.reduceEqDiff, decide_true, decide_false, cond_true, cond_false, List.filter_nil, List.filter_cons, Nat.reduceAdd, Nat.reduceLeDiff, reduceCtorEq, List.length_nil, List.length_cons, Nat.mul_one, if_true, if_false, Bool.false_eq_true, eq_self, and_true, true_and, retL, resultsL, resAllL, resOfL, List.append_nil, List.nil_append, List.cons_append, true_or, or_true, false_or, or_false, false_and, and_false, not_true_eq_false, not_false_eq_true, ne_eq, unL, trim_nil, views_pures, LV.pures, LV.pure, freeze, Nat.reduceDiv, Int.reduceEq, Int.reduceLT, Int.reduceLE, Int.natCast_zero, LV.cells, allocL, List.getElem?_cons_zero, List.getElem?_cons_succ, storeL, spliceL, List.take_zero, List.take_succ_cons, List.drop_zero, List.drop_succ_cons, List.drop_nil, List.take_nil, Nat.le_refl, Nat.reduceMul, List.set_cons_zero, List.set_cons_succ, LV.scalar, List.all_cons, List.all_nil, Nat.lt_add_one, Nat.zero_lt_one, Nat.reduceLT, Nat.lt_irrefl, fillL, List.length_append, foldIntL, kind_beq, pures_int, solids_int, plains_int, unders_int, scalars_int, hc, h1, hh, hl]
  · rw [if_neg h1]
    refine call_P lp_post_Apart rfl (by simp [LV.pures, LV.pure]) (m1 := [⟨[IL nl ex sz s], true⟩]) ?_ (by simp [LV.pures, LV.pure]) m
    simp only [post_Apart, post_Apart.B, beqT, beqF, exF_seq, exF_region, exF_block, exF_cond, exF_ret, exF_exit, exF_skip, runL, wantL, stepL, evL, evC, LEnv.at, putL, loadFine, loadL, cellsAt, Trk.putNew, Trk.up, Trk.touch, Trk.gives, Trk.calm, Trk.hit, opdsOf, Trk.fresh, LEnv.keep, LEnv.ofFrom, List.map_cons, List.map_nil, nbeq, nble, nblt, ofAV, ofAVs, lenL, bin_add, bin_sub, bin_mul, bin_eql, bin_neq, bin_lss, bin_leq, bin_gtr, bin_geq, natL_nat, natL_zero, natL_one, natL_two, Nat.zero_mul, List.any_cons, List.any_nil, Bool.or_false, Bool.false_or, Bool.true_or, Bool.or_true, Bool.and_true, Bool.true_and, Bool.and_false, Bool.false_and, Bool.not_true, Bool.not_false, Nat.reduceBEq, Nat.reduceEqDiff, decide_true, decide_false, cond_true, cond_false, List.filter_nil, List.filter_cons, Nat.reduceAdd, Nat.reduceLeDiff, reduceCtorEq, List.length_nil, List.length_cons, Nat.mul_one, if_true, if_false, Bool.false_eq_true, eq_self, and_true, true_and, retL, resultsL, resAllL, resOfL, List.append_nil, List.nil_append, List.cons_append, true_or, or_true, false_or, or_false, false_and, and_false, not_true_eq_false, not_false_eq_true, ne_eq, unL, trim_nil, views_pures, LV.pures, LV.pure, freeze, Nat.reduceDiv, Int.reduceEq, Int.reduceLT, Int.reduceLE, Int.natCast_zero, LV.cells, allocL, List.getElem?_cons_zero, List.getElem?_cons_succ, storeL, spliceL, List.take_zero, List.take_succ_cons, List.drop_zero, List.drop_succ_cons, List.drop_nil, List.take_nil, Nat.le_refl, Nat.reduceMul, List.set_cons_zero, List.set_cons_succ, LV.scalar, List.all_cons, List.all_nil, Nat.lt_add_one, Nat.zero_lt_one, Nat.reduceLT, Nat.lt_irrefl, fillL, List.length_append, foldIntL, kind_beq, pures_int, solids_int, plains_int, unders_int, scalars_int, hc, h1]
    rfl

end Go.Am.Post

