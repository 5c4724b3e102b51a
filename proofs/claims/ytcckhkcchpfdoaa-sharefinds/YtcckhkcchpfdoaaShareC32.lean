import Derived.Test.YtcckhkcchpfdoaaShareC31
/-
  What functions of chapter 07 compute, 32: the program's better division.
-/
set_option linter.unusedVariables false
set_option linter.unusedSimpArgs false
set_option maxRecDepth 10000
namespace Go.Am.Share
def betB (V : List (List Int)) (old o : List Int) : Bool := match betS (ownL V o 0 V.length) old 0 with | some d => decide (0 < d) | none => false
theorem bet_loop (own old : List Int) (hlo : own.length = old.length) (hs : own.length < 1000) (m : LMem) (hm : m[1]? = some ⟨[IL false false 1 old], true⟩) (n : Nat) : ∀ (k : Nat) (s : Int), k + n = own.length →
    exF LP share_Better_1.L0 [(1, .ptr 1 0 1), (2, .ptr 2 0 1), (3, .ptr 3 0 1), (4, .ptr 9 0 2), (6, .int .i64 s), (10, IL false false 1 own), (11, .int .i64 (own.length : Int)), (12, .int .i64 (k : Int))] m =
      match betS (own.drop k) (old.drop k) s with
      | none => some (.ret, [(5, .bool true)], m)
      | some d => some (.exit 0, [(2, .ptr 2 0 1), (3, .ptr 3 0 1), (4, .ptr 9 0 2), (6, .int .i64 d)], m) := by
  induction n with
  | zero =>
    intro k s hk
    rw [share_Better_1.L0_eq, List.drop_eq_nil_of_le (show own.length ≤ k by omega), List.drop_eq_nil_of_le (show old.length ≤ k by omega)]
    simp only [share_Better_1.B0, beqT, beqF, exF_seq, exF_region, exF_block, exF_cond, exF_ret, exF_exit, exF_skip, runL, wantL, stepL, evL, LEnv.at, putL, loadFine, loadL, cellsAt, Trk.putNew, Trk.up, Trk.touch, Trk.gives, Trk.calm, Trk.hit, opdsOf, Trk.fresh, LEnv.keep, LEnv.ofFrom, List.map_cons, List.map_nil, nbeq, nble, nblt, ofAV, ofAVs, lenL, bin_add, bin_sub, bin_mul, bin_eql, bin_neq, bin_lss, bin_leq, bin_gtr, bin_geq, natL_nat, natL_zero, natL_one, natL_two, Nat.zero_mul, List.any_cons, List.any_nil, Bool.or_false, Bool.false_or, Bool.true_or, Bool.or_true, Bool.and_true, Bool.true_and, Bool.and_false, Bool.false_and, Bool.not_true, Bool.not_false, Nat.reduceBEq, Nat.reduceEqDiff, decide_true, decide_false, cond_true, cond_false, List.filter_nil, List.filter_cons, Nat.reduceAdd, Nat.reduceLeDiff, reduceCtorEq, List.length_nil, List.length_cons, Nat.mul_one, if_true, if_false, Bool.false_eq_true, eq_self, and_true, true_and, retL, resultsL, resAllL, resOfL, List.append_nil, List.nil_append, List.cons_append, true_or, or_true, false_or, or_false, false_and, and_false, not_true_eq_false, not_false_eq_true, ne_eq, unL, trim_nil, views_pures, LV.pures, LV.pure, freeze, Nat.reduceDiv, Int.reduceEq, Int.reduceLT, Int.reduceLE, Int.natCast_zero, LV.cells, allocL, List.getElem?_cons_zero, List.getElem?_cons_succ, storeL, spliceL, List.take_zero, List.take_succ_cons, List.drop_zero, List.drop_succ_cons, List.drop_nil, List.take_nil, Nat.le_refl, Nat.reduceMul, List.set_cons_zero, List.set_cons_succ, LV.scalar, List.all_cons, List.all_nil, Nat.lt_add_one, Nat.zero_lt_one, Nat.lt_irrefl, fillL, List.length_append, foldIntL, kind_beq, pures_int, solids_int, plains_int, unders_int, scalars_int, show ¬ ((k : Int) < (own.length : Int)) by omega, betS]
  | succ n ih =>
    intro k s hk
    have h2 : k < own.length := by omega
    have h3 : k < old.length := by omega
    rw [share_Better_1.L0_eq, List.drop_eq_getElem_cons h2, List.drop_eq_getElem_cons h3, betS]
    by_cases h : own[k] < old[k]
    · simp only [share_Better_1.B0, beqT, beqF, exF_seq, exF_region, exF_block, exF_cond, exF_ret, exF_exit, exF_skip, runL, wantL, stepL, evL, LEnv.at, putL, loadFine, loadL, cellsAt, Trk.putNew, Trk.up, Trk.touch, Trk.gives, Trk.calm, Trk.hit, opdsOf, Trk.fresh, LEnv.keep, LEnv.ofFrom, List.map_cons, List.map_nil, nbeq, nble, nblt, ofAV, ofAVs, lenL, bin_add, bin_sub, bin_mul, bin_eql, bin_neq, bin_lss, bin_leq, bin_gtr, bin_geq, natL_nat, natL_zero, natL_one, natL_two, Nat.zero_mul, List.any_cons, List.any_nil, Bool.or_false, Bool.false_or, Bool.true_or, Bool.or_true, Bool.and_true, Bool.true_and, Bool.and_false, Bool.false_and, Bool.not_true, Bool.not_false, Nat.reduceBEq, Nat.reduceEqDiff, decide_true, decide_false, cond_true, cond_false, List.filter_nil, List.filter_cons, Nat.reduceAdd, Nat.reduceLeDiff, reduceCtorEq, List.length_nil, List.length_cons, Nat.mul_one, if_true, if_false, Bool.false_eq_true, eq_self, and_true, true_and, retL, resultsL, resAllL, resOfL, List.append_nil, List.nil_append, List.cons_append, true_or, or_true, false_or, or_false, false_and, and_false, not_true_eq_false, not_false_eq_true, ne_eq, unL, trim_nil, views_pures, LV.pures, LV.pure, freeze, Nat.reduceDiv, Int.reduceEq, Int.reduceLT, Int.reduceLE, Int.natCast_zero, LV.cells, allocL, List.getElem?_cons_zero, List.getElem?_cons_succ, storeL, spliceL, List.take_zero, List.take_succ_cons, List.drop_zero, List.drop_succ_cons, List.drop_nil, List.take_nil, Nat.le_refl, Nat.reduceMul, List.set_cons_zero, List.set_cons_succ, LV.scalar, List.all_cons, List.all_nil, Nat.lt_add_one, Nat.zero_lt_one, Nat.lt_irrefl, fillL, List.length_append, foldIntL, kind_beq, pures_int, solids_int, plains_int, unders_int, scalars_int, show ((k : Int) < (own.length : Int)) by omega, h2, h3, hm, int_at _ _ _ h2, int_at _ _ _ h3, h]
    · simp only [share_Better_1.B0, beqT, beqF, exF_seq, exF_region, exF_block, exF_cond, exF_ret, exF_exit, exF_skip, runL, wantL, stepL, evL, LEnv.at, putL, loadFine, loadL, cellsAt, Trk.putNew, Trk.up, Trk.touch, Trk.gives, Trk.calm, Trk.hit, opdsOf, Trk.fresh, LEnv.keep, LEnv.ofFrom, List.map_cons, List.map_nil, nbeq, nble, nblt, ofAV, ofAVs, lenL, bin_add, bin_sub, bin_mul, bin_eql, bin_neq, bin_lss, bin_leq, bin_gtr, bin_geq, natL_nat, natL_zero, natL_one, natL_two, Nat.zero_mul, List.any_cons, List.any_nil, Bool.or_false, Bool.false_or, Bool.true_or, Bool.or_true, Bool.and_true, Bool.true_and, Bool.and_false, Bool.false_and, Bool.not_true, Bool.not_false, Nat.reduceBEq, Nat.reduceEqDiff, decide_true, decide_false, cond_true, cond_false, List.filter_nil, List.filter_cons, Nat.reduceAdd, Nat.reduceLeDiff, reduceCtorEq, List.length_nil, List.length_cons, Nat.mul_one, if_true, if_false, Bool.false_eq_true, eq_self, and_true, true_and, retL, resultsL, resAllL, resOfL, List.append_nil, List.nil_append, List.cons_append, true_or, or_true, false_or, or_false, false_and, and_false, not_true_eq_false, not_false_eq_true, ne_eq, unL, trim_nil, views_pures, LV.pures, LV.pure, freeze, Nat.reduceDiv, Int.reduceEq, Int.reduceLT, Int.reduceLE, Int.natCast_zero, LV.cells, allocL, List.getElem?_cons_zero, List.getElem?_cons_succ, storeL, spliceL, List.take_zero, List.take_succ_cons, List.drop_zero, List.drop_succ_cons, List.drop_nil, List.take_nil, Nat.le_refl, Nat.reduceMul, List.set_cons_zero, List.set_cons_succ, LV.scalar, List.all_cons, List.all_nil, Nat.lt_add_one, Nat.zero_lt_one, Nat.lt_irrefl, fillL, List.length_append, foldIntL, kind_beq, pures_int, solids_int, plains_int, unders_int, scalars_int, show ((k : Int) < (own.length : Int)) by omega, h2, h3, hm, int_at _ _ _ h2, int_at _ _ _ h3, h, wrap_succ (show k + 1 < 9223372036854775808 by omega), ih (k + 1) _ (by omega)]
def visB (V : List (List Int)) (old : List Int) (s : Option (List Int)) (o : List Int) : Option (List Int) × Bool := if betB V old o then (some o, false) else (s, true)
def BM (V W : LV) (old : List Int) (L : Nat) (s : Option (List Int)) (o : List Int) : LMem :=
  [⟨[V, W], true⟩, ⟨[IL false false 1 old], true⟩, ⟨[.bool s.isSome], true⟩, ⟨[match s with | none => LNIL | some _ => CV 10 L], true⟩, ⟨[.func n_share_Better_1 [] [.ptr 1 0 1, .ptr 2 0 1, .ptr 3 0 1]], true⟩, ⟨[V, SLo 6 L], true⟩, ⟨o.map (LV.int .i64), fown L s⟩, ⟨[V, SLo 6 L], true⟩, ⟨[PUT 4], true⟩] ++ (match s with | none => [] | some q => HI V L 6 q)
theorem better1_c (nl ex nl' ex' : Bool) (sz sz' : Nat) (o0 : List Int) {rs : List Row} {L : Nat} (D : VOk rs L) (old : List Int) (hold : old.length = rs.length) (o : List Int) (ho : o.length = L) :
    clF LP n_share_Better_1 [.agg [VL nl ex sz rs, SLo 6 L], .ptr 1 0 1, .ptr 2 0 1, .ptr 3 0 1] (BM (VL nl ex sz rs) (IL nl' ex' sz' o0) old L none o) = some (.W, .bool (visB (vals rs) old none o).2, BM (VL nl ex sz rs) (IL nl' ex' sz' o0) old L (visB (vals rs) old none o).1 o) := by
  have h6 := D.le6
  have h4 := D.le4
  have hf := ownP_m nl ex sz (dok_len D ho) (m := BM (VL nl ex sz rs) (IL nl' ex' sz' o0) old L none o ++ [⟨[VL nl ex sz rs, SLo 6 L], true⟩]) (i := 6) (b := true) rfl ho
  have hcl := clone_m (g := 0) (m := BM (VL nl ex sz rs) (IL nl' ex' sz' o0) old L none o ++ [⟨[VL nl ex sz rs, SLo 6 L], true⟩]) (i := 6) (b := true) (o := o) rfl ho (by omega)
  have hol := ownL_length (vals rs) o 0 rs.length
  have hlp := bet_loop (ownL (vals rs) o 0 rs.length) old (by rw [hol, hold]) (by omega) (BM (VL nl ex sz rs) (IL nl' ex' sz' o0) old L none o ++ [⟨[VL nl ex sz rs, SLo 6 L], true⟩]) rfl (ownL (vals rs) o 0 rs.length).length 0 0 (by omega)
  rw [List.drop_zero, List.drop_zero] at hlp
  unfold visB betB
  rw [vals_length]
  generalize ownL (vals rs) o 0 rs.length = own at *
  rw [clF_eq, lp_share_Better_1]
  simp only [BM, fown, Option.isSome_none, List.cons_append, List.nil_append, List.append_nil, List.length_cons, List.length_nil, Nat.reduceAdd, Int.natCast_zero] at hf hcl hlp
  simp only [callMode, share_Better_1]
  cases hb : betS own old 0 with
  | none =>
    rw [hb] at hlp
    simp only [share_Better_1.B, beqT, beqF, exF_seq, exF_region, exF_block, exF_cond, exF_ret, exF_exit, exF_skip, runL, wantL, stepL, evL, LEnv.at, putL, loadFine, loadL, cellsAt, Trk.putNew, Trk.up, Trk.touch, Trk.gives, Trk.calm, Trk.hit, opdsOf, Trk.fresh, LEnv.keep, LEnv.ofFrom, List.map_cons, List.map_nil, nbeq, nble, nblt, ofAV, ofAVs, lenL, bin_add, bin_sub, bin_mul, bin_eql, bin_neq, bin_lss, bin_leq, bin_gtr, bin_geq, natL_nat, natL_zero, natL_one, natL_two, Nat.zero_mul, List.any_cons, List.any_nil, Bool.or_false, Bool.false_or, Bool.true_or, Bool.or_true, Bool.and_true, Bool.true_and, Bool.and_false, Bool.false_and, Bool.not_true, Bool.not_false, Nat.reduceBEq, Nat.reduceEqDiff, decide_true, decide_false, cond_true, cond_false, List.filter_nil, List.filter_cons, Nat.reduceAdd, Nat.reduceLeDiff, reduceCtorEq, List.length_nil, List.length_cons, Nat.mul_one, if_true, if_false, Bool.false_eq_true, eq_self, and_true, true_and, retL, resultsL, resAllL, resOfL, List.append_nil, List.nil_append, List.cons_append, true_or, or_true, false_or, or_false, false_and, and_false, not_true_eq_false, not_false_eq_true, ne_eq, unL, trim_nil, views_pures, LV.pures, LV.pure, freeze, Nat.reduceDiv, Int.reduceEq, Int.reduceLT, Int.reduceLE, Int.natCast_zero, LV.cells, allocL, List.getElem?_cons_zero, List.getElem?_cons_succ, storeL, spliceL, List.take_zero, List.take_succ_cons, List.drop_zero, List.drop_succ_cons, List.drop_nil, List.take_nil, Nat.le_refl, Nat.reduceMul, List.set_cons_zero, List.set_cons_succ, LV.scalar, List.all_cons, List.all_nil, Nat.lt_add_one, Nat.zero_lt_one, Nat.lt_irrefl, fillL, List.length_append, foldIntL, kind_beq, pures_int, solids_int, plains_int, unders_int, scalars_int, BM, fown, Option.isSome_none, hf, hlp]
    simp [trim, belowM, LV.unders, LV.under, unders_int, nblt, fown]
  | some d =>
    rw [hb] at hlp
    by_cases hd : 0 < d
    · by_cases h : L = 0
      · subst h
        have hone : o = [] := List.length_eq_zero_iff.1 ho
        subst hone
        simp only [List.map_nil] at hf hlp
        simp only [List.map_nil, CV, if_true, freeze, freeze1, List.getElem?_cons_succ, List.getElem?_cons_zero, List.set_cons_succ, List.set_cons_zero] at hcl
        simp only [share_Better_1.B, beqT, beqF, exF_seq, exF_region, exF_block, exF_cond, exF_ret, exF_exit, exF_skip, runL, wantL, stepL, evL, LEnv.at, putL, loadFine, loadL, cellsAt, Trk.putNew, Trk.up, Trk.touch, Trk.gives, Trk.calm, Trk.hit, opdsOf, Trk.fresh, LEnv.keep, LEnv.ofFrom, List.map_cons, List.map_nil, nbeq, nble, nblt, ofAV, ofAVs, lenL, bin_add, bin_sub, bin_mul, bin_eql, bin_neq, bin_lss, bin_leq, bin_gtr, bin_geq, natL_nat, natL_zero, natL_one, natL_two, Nat.zero_mul, List.any_cons, List.any_nil, Bool.or_false, Bool.false_or, Bool.true_or, Bool.or_true, Bool.and_true, Bool.true_and, Bool.and_false, Bool.false_and, Bool.not_true, Bool.not_false, Nat.reduceBEq, Nat.reduceEqDiff, decide_true, decide_false, cond_true, cond_false, List.filter_nil, List.filter_cons, Nat.reduceAdd, Nat.reduceLeDiff, reduceCtorEq, List.length_nil, List.length_cons, Nat.mul_one, if_true, if_false, Bool.false_eq_true, eq_self, and_true, true_and, retL, resultsL, resAllL, resOfL, List.append_nil, List.nil_append, true_or, or_true, false_or, or_false, false_and, and_false, not_true_eq_false, not_false_eq_true, ne_eq, unL, trim_nil, LV.pures, LV.pure, Nat.reduceDiv, Int.reduceEq, Int.reduceLT, Int.reduceLE, Int.natCast_zero, allocL, List.getElem?_cons_zero, List.getElem?_cons_succ, storeL, spliceL, List.take_zero, List.take_succ_cons, List.drop_zero, List.drop_succ_cons, List.drop_nil, List.take_nil, Nat.le_refl, Nat.reduceMul, List.set_cons_zero, List.set_cons_succ, LV.scalar, List.all_cons, List.all_nil, Nat.lt_add_one, Nat.zero_lt_one, Nat.lt_irrefl, fillL, foldIntL, kind_beq, pures_int, solids_int, plains_int, unders_int, scalars_int, LV.cells, freeze, List.cons_append, BM, fown, Option.isSome_none, Option.isSome_some, hf, hlp, hd, hcl]
        simp [trim, belowM, LV.unders, LV.under, unders_int, nblt, HI, CV]
      · simp only [CV, if_neg h, List.cons_append, List.nil_append] at hcl
        simp only [share_Better_1.B, beqT, beqF, exF_seq, exF_region, exF_block, exF_cond, exF_ret, exF_exit, exF_skip, runL, wantL, stepL, evL, LEnv.at, putL, loadFine, loadL, cellsAt, Trk.putNew, Trk.up, Trk.touch, Trk.gives, Trk.calm, Trk.hit, opdsOf, Trk.fresh, LEnv.keep, LEnv.ofFrom, List.map_cons, List.map_nil, nbeq, nble, nblt, ofAV, ofAVs, lenL, bin_add, bin_sub, bin_mul, bin_eql, bin_neq, bin_lss, bin_leq, bin_gtr, bin_geq, natL_nat, natL_zero, natL_one, natL_two, Nat.zero_mul, List.any_cons, List.any_nil, Bool.or_false, Bool.false_or, Bool.true_or, Bool.or_true, Bool.and_true, Bool.true_and, Bool.and_false, Bool.false_and, Bool.not_true, Bool.not_false, Nat.reduceBEq, Nat.reduceEqDiff, decide_true, decide_false, cond_true, cond_false, List.filter_nil, List.filter_cons, Nat.reduceAdd, Nat.reduceLeDiff, reduceCtorEq, List.length_nil, List.length_cons, Nat.mul_one, if_true, if_false, Bool.false_eq_true, eq_self, and_true, true_and, retL, resultsL, resAllL, resOfL, List.append_nil, List.nil_append, true_or, or_true, false_or, or_false, false_and, and_false, not_true_eq_false, not_false_eq_true, ne_eq, unL, trim_nil, LV.pures, LV.pure, Nat.reduceDiv, Int.reduceEq, Int.reduceLT, Int.reduceLE, Int.natCast_zero, allocL, List.getElem?_cons_zero, List.getElem?_cons_succ, storeL, spliceL, List.take_zero, List.take_succ_cons, List.drop_zero, List.drop_succ_cons, List.drop_nil, List.take_nil, Nat.le_refl, Nat.reduceMul, List.set_cons_zero, List.set_cons_succ, LV.scalar, List.all_cons, List.all_nil, Nat.lt_add_one, Nat.zero_lt_one, Nat.lt_irrefl, fillL, foldIntL, kind_beq, pures_int, solids_int, plains_int, unders_int, scalars_int, LV.cells, freeze, List.cons_append, BM, fown, Option.isSome_none, Option.isSome_some, hf, hlp, hd, hcl]
        simp [trim, belowM, LV.unders, LV.under, unders_int, nblt, HI, CV, h]
    · simp only [share_Better_1.B, beqT, beqF, exF_seq, exF_region, exF_block, exF_cond, exF_ret, exF_exit, exF_skip, runL, wantL, stepL, evL, LEnv.at, putL, loadFine, loadL, cellsAt, Trk.putNew, Trk.up, Trk.touch, Trk.gives, Trk.calm, Trk.hit, opdsOf, Trk.fresh, LEnv.keep, LEnv.ofFrom, List.map_cons, List.map_nil, nbeq, nble, nblt, ofAV, ofAVs, lenL, bin_add, bin_sub, bin_mul, bin_eql, bin_neq, bin_lss, bin_leq, bin_gtr, bin_geq, natL_nat, natL_zero, natL_one, natL_two, Nat.zero_mul, List.any_cons, List.any_nil, Bool.or_false, Bool.false_or, Bool.true_or, Bool.or_true, Bool.and_true, Bool.true_and, Bool.and_false, Bool.false_and, Bool.not_true, Bool.not_false, Nat.reduceBEq, Nat.reduceEqDiff, decide_true, decide_false, cond_true, cond_false, List.filter_nil, List.filter_cons, Nat.reduceAdd, Nat.reduceLeDiff, reduceCtorEq, List.length_nil, List.length_cons, Nat.mul_one, if_true, if_false, Bool.false_eq_true, eq_self, and_true, true_and, retL, resultsL, resAllL, resOfL, List.append_nil, List.nil_append, List.cons_append, true_or, or_true, false_or, or_false, false_and, and_false, not_true_eq_false, not_false_eq_true, ne_eq, unL, trim_nil, views_pures, LV.pures, LV.pure, freeze, Nat.reduceDiv, Int.reduceEq, Int.reduceLT, Int.reduceLE, Int.natCast_zero, LV.cells, allocL, List.getElem?_cons_zero, List.getElem?_cons_succ, storeL, spliceL, List.take_zero, List.take_succ_cons, List.drop_zero, List.drop_succ_cons, List.drop_nil, List.take_nil, Nat.le_refl, Nat.reduceMul, List.set_cons_zero, List.set_cons_succ, LV.scalar, List.all_cons, List.all_nil, Nat.lt_add_one, Nat.zero_lt_one, Nat.lt_irrefl, fillL, List.length_append, foldIntL, kind_beq, pures_int, solids_int, plains_int, unders_int, scalars_int, BM, fown, Option.isSome_none, hf, hlp, hd]
      simp [trim, belowM, LV.unders, LV.under, unders_int, nblt, fown]
def XB (nl ex nl' ex' : Bool) (sz sz' : Nat) (o0 : List Int) {rs : List Row} {L : Nat} (D : VOk rs L) (old : List Int) (hold : old.length = rs.length) : Vis (Option (List Int)) (VL nl ex sz rs) rs.length L where
  mem := BM (VL nl ex sz rs) (IL nl' ex' sz' o0) old L
  vis := visB (vals rs) old
  good := fun s => s = none
  f := n_share_Better_1
  first := []
  cap := [.ptr 1 0 1, .ptr 2 0 1, .ptr 3 0 1]
  d := 7
  b := 6
  iv := 4
  ip := 8
  own := fown L
  hown := fun s h => by cases s <;> simp [fown]; omega
  hd := fun _ _ _ => rfl
  hb := fun _ _ _ => rfl
  hv := fun _ _ _ => rfl
  hp := fun _ _ _ => rfl
  hset := fun s _ _ _ _ h => by
    have : fown L s = true := by cases s <;> simp [fown]; omega
    simp [BM, this]
  htrim := fun s l o o' c hs h1 h2 => by
    subst hs
    generalize (runV (visB (vals rs) old) none l).1 = r
    cases r with
    | none => exact trim_le _ _ _ (by simp [BM])
    | some q =>
      by_cases h : L = 0
      · exact trim_le _ _ _ (by simp [BM, HI, h])
      · simp [BM, HI, h, trim, belowM, LV.unders, LV.under, nblt, CV]
  hvis := fun s o hs ho => by subst hs; exact better1_c nl ex nl' ex' sz sz' o0 D old hold o ho
  hgood := fun s o hs _ h => by
    subst hs
    by_cases c : betB (vals rs) old o = true
    · simp [visB, c] at h
    · simp [visB, c]
theorem bet_run (V : List (List Int)) (old : List Int) : ∀ (l : List (List Int)), (runV (visB V old) none l).1 = l.find? (betB V old)
  | [] => rfl
  | x :: xs => by
    rw [runV, List.find?_cons]
    cases c : betB V old x
    · have := bet_run V old xs
      simpa [visB, c] using this
    · simp [visB, c]
theorem each_better (nl ex nl' ex' : Bool) (sz sz' : Nat) (o0 : List Int) {rs : List Row} {L : Nat} (D : VOk rs L) (old : List Int) (hold : old.length = rs.length) :
    ∃ m', clF LP n_share_each [VL nl ex sz rs, .func n_share_Better_1 [] [.ptr 1 0 1, .ptr 2 0 1, .ptr 3 0 1]] [⟨[VL nl ex sz rs, IL nl' ex' sz' o0], true⟩, ⟨[IL false false 1 old], true⟩, ⟨[.bool false], true⟩, ⟨[LNIL], true⟩] = some (.W, .tup [], m') ∧
      (((allD rs.length L).find? (betB (vals rs) old)) = none → m'[2]? = some ⟨[.bool false], true⟩) ∧
      (∀ q, ((allD rs.length L).find? (betB (vals rs) old)) = some q → m'[2]? = some ⟨[.bool true], true⟩ ∧ m'[3]? = some ⟨[CV 10 L], true⟩ ∧ (L ≠ 0 → m'[10]? = some ⟨q.map (LV.int .i64), true⟩)) := by
  have h0 : (nones L).length = L := by simp [nones]
  obtain ⟨o', q1, q2, q3⟩ := put_c nl ex sz D.le4 D.le6 (XB nl ex nl' ex' sz sz' o0 D old hold) L 0 none (nones L) (by omega) h0 rfl
  have hm : ((allR rs.length L).map fun q => (nones L).take 0 ++ q) = allR rs.length L := by simp
  rw [hm, allR_D] at q3
  have hl := D.len 0 D.pos
  have he := fun m => empty_c nl ex sz rs D.pos (by rw [hl]; exact D.le6) m
  rw [hl] at he
  simp only [XB, Int.natCast_zero] at q3
  rw [bet_run] at q3
  generalize (allD rs.length L).find? (betB (vals rs) old) = r at *
  have q3' : ∀ x, clF LP n_share_each_1 [.int .i64 0, .ptr 7 0 2, .ptr 4 0 1, .ptr 8 0 1] [⟨[VL nl ex sz rs, IL nl' ex' sz' o0], true⟩, ⟨[IL false false 1 old], true⟩, ⟨[.bool false], true⟩, ⟨[LNIL], true⟩, ⟨[.func n_share_Better_1 [] [.ptr 1 0 1, .ptr 2 0 1, .ptr 3 0 1]], true⟩, ⟨[VL nl ex sz rs, SLo 6 L], true⟩, ⟨(nones L).map (LV.int .i64), true⟩, ⟨[VL nl ex sz rs, SLo 6 L], true⟩, ⟨[PUT 4], true⟩] = x → clF LP n_share_each_1 [.int .i64 0, .ptr 7 0 2, .ptr 4 0 1, .ptr 8 0 1] (BM (VL nl ex sz rs) (IL nl' ex' sz' o0) old L none (nones L)) = x := fun x h => h
  have q4 := q3' _ rfl
  rw [q3] at q4
  refine ⟨trim 4 [.tup []] (BM (VL nl ex sz rs) (IL nl' ex' sz' o0) old L r o'), ?_, ?_, ?_⟩
  · rw [clF_eq, lp_share_each]
    simp only [callMode, share_each]
    simp only [share_each.B, beqT, beqF, exF_seq, exF_region, exF_block, exF_cond, exF_ret, exF_exit, exF_skip, runL, wantL, stepL, evL, LEnv.at, putL, loadFine, loadL, cellsAt, Trk.putNew, Trk.up, Trk.touch, Trk.gives, Trk.calm, Trk.hit, opdsOf, Trk.fresh, LEnv.keep, LEnv.ofFrom, List.map_cons, List.map_nil, nbeq, nble, nblt, ofAV, ofAVs, lenL, bin_add, bin_sub, bin_mul, bin_eql, bin_neq, bin_lss, bin_leq, bin_gtr, bin_geq, natL_nat, natL_zero, natL_one, natL_two, Nat.zero_mul, List.any_cons, List.any_nil, Bool.or_false, Bool.false_or, Bool.true_or, Bool.or_true, Bool.and_true, Bool.true_and, Bool.and_false, Bool.false_and, Bool.not_true, Bool.not_false, Nat.reduceBEq, Nat.reduceEqDiff, decide_true, decide_false, cond_true, cond_false, List.filter_nil, List.filter_cons, Nat.reduceAdd, Nat.reduceLeDiff, reduceCtorEq, List.length_nil, List.length_cons, Nat.mul_one, if_true, if_false, Bool.false_eq_true, eq_self, and_true, true_and, retL, resultsL, resAllL, resOfL, List.append_nil, List.nil_append, List.cons_append, true_or, or_true, false_or, or_false, false_and, and_false, not_true_eq_false, not_false_eq_true, ne_eq, unL, trim_nil, views_pures, LV.pures, LV.pure, freeze, Nat.reduceDiv, Int.reduceEq, Int.reduceLT, Int.reduceLE, Int.natCast_zero, LV.cells, allocL, List.getElem?_cons_zero, List.getElem?_cons_succ, storeL, spliceL, List.take_zero, List.take_succ_cons, List.drop_zero, List.drop_succ_cons, List.drop_nil, List.take_nil, Nat.le_refl, Nat.reduceMul, List.set_cons_zero, List.set_cons_succ, LV.scalar, List.all_cons, List.all_nil, Nat.lt_add_one, Nat.zero_lt_one, Nat.lt_irrefl, fillL, List.length_append, foldIntL, kind_beq, pures_int, solids_int, plains_int, unders_int, scalars_int, he, ← q4]
  · rintro rfl
    simp [BM, trim, belowM, LV.unders, LV.under, fown]
  · rintro q rfl
    by_cases h : L = 0
    · subst h
      simp [BM, trim, belowM, LV.unders, LV.under, CV]
    · simp [BM, trim, belowM, LV.unders, LV.under, CV, h, nblt, HI]
end Go.Am.Share

/-
  What functions of chapter 07 compute, 33: the program's better division, handed back; products.
-/
set_option linter.unusedVariables false
set_option linter.unusedSimpArgs false
set_option maxRecDepth 10000
namespace Go.Am.Share
theorem ownP_p (nl ex nl' ex' : Bool) (sz sz' : Nat) {rs : List Row} {o : List Int} (D : DOk rs o) (m : LMem) : clF LP n_share_division_own [.agg [VL nl ex sz rs, IL nl' ex' sz' o]] m = some (.P, IL false false 1 (ownL (vals rs) o 0 rs.length), m) := by
  have hr := own_run nl ex nl' ex' sz sz' D
  have hne := ownL_ne D
  have hv2 := view_grow 37 [⟨[VL nl ex sz rs, IL nl' ex' sz' o], true⟩] (ownL (vals rs) o 0 rs.length)
  have hd : decide (ownL (vals rs) o 0 rs.length = []) = false := by simpa using hne
  rw [if_neg hne, RL, hd] at hv2
  exact call_Pv lp_share_division_own rfl (by simp [LV.pures, LV.pure]) hr hv2 m
theorem betB_eq {rs : List Row} {q o : List Int} (Dq : DOk rs q) (Do : DOk rs o) : betB (vals rs) (ownL (vals rs) o 0 rs.length) q = better (vals rs) q o := by
  have h4 := Dq.le4
  unfold betB better
  rw [vals_length]
  have := betS_L (ownL (vals rs) q 0 rs.length) (ownL (vals rs) o 0 rs.length) 0 (by simp [ownL]) (ownL_bound Dq) (ownL_bound Do) (by omega) (by rw [ownL_length]; omega)
  rw [show decide ((0 : Int) < 0) = false from rfl] at this
  exact this
theorem find_congr {p q : List Int → Bool} : ∀ (l : List (List Int)), (∀ x ∈ l, p x = q x) → l.find? p = l.find? q
  | [], _ => rfl
  | x :: xs, h => by
    rw [List.find?_cons, List.find?_cons, h x (by simp), find_congr xs (fun y hy => h y (by simp [hy]))]
theorem betterP_c (nl ex nl' ex' : Bool) (sz sz' : Nat) (rs : List Row) (o : List Int) (I : In rs nl' sz' o) : ∃ a b c, ∀ m, clF LP n_share_Better [VL nl ex sz rs, IL nl' ex' sz' o] m = some (.P, .tup [IL a b c (betterV (vals rs) o), .int .i64 (betterE (vals rs) o)], m) := by
  obtain ⟨h1, h2⟩ := opened_c nl ex nl' ex' sz sz' rs o I.hl I.hr I.ho I.hsz I.hnl []
  unfold betterV betterE
  by_cases hd : divE (vals rs) o = 0
  · obtain ⟨nl2, ex2, sz2, h3, _⟩ := h2 hd
    have D := dok_of hd
    have k1 := D.pos
    have hlen := D.len 0 k1
    have hc : chkV (vals rs) = 0 := by
      unfold divE at hd
      split at hd
      · rename_i c; exact absurd hd c
      · rename_i c; simpa using c
    have DV := vok_of hc
    rw [vals0 rs k1, ← hlen] at DV
    have hold := ownL_length (vals rs) o 0 rs.length
    have hown := fun m => ownP_p nl ex nl2 ex2 sz sz2 D m
    obtain ⟨m', e1, e2, e3⟩ := each_better nl ex nl2 ex2 sz sz2 o DV (ownL (vals rs) o 0 rs.length) hold
    have hmem := fun q hq => allD_mem rs.length o.length q hq
    rw [find_congr (q := fun q => better (vals rs) q o) _ (fun q hq => betB_eq (dok_same D (hmem q hq).1) D)] at e2 e3
    rw [if_pos hd, if_neg (by simpa using hd), vals_length, vals0 rs k1, ← hlen]
    have hql : ∀ q, (allD rs.length o.length).find? (fun q => better (vals rs) q o) = some q → q.length = o.length := fun q hq => (hmem q (List.mem_of_find?_eq_some hq)).1
    generalize (allD rs.length o.length).find? (fun q => better (vals rs) q o) = r at *
    generalize ownL (vals rs) o 0 rs.length = old at *
    cases r with
    | none =>
      have e2 := e2 rfl
      refine ⟨true, true, 0, fun m => call_P lp_share_Better rfl (by simp [LV.pures, LV.pure]) (m1 := m') ?_ (by simp [LV.pures, LV.pure]) m⟩
      simp only [share_Better, share_Better.B, beqT, beqF, exF_seq, exF_region, exF_block, exF_cond, exF_ret, exF_exit, exF_skip, runL, wantL, stepL, evL, LEnv.at, putL, loadFine, loadL, cellsAt, Trk.putNew, Trk.up, Trk.touch, Trk.gives, Trk.calm, Trk.hit, opdsOf, Trk.fresh, LEnv.keep, LEnv.ofFrom, List.map_cons, List.map_nil, nbeq, nble, nblt, ofAV, ofAVs, lenL, bin_add, bin_sub, bin_mul, bin_eql, bin_neq, bin_lss, bin_leq, bin_gtr, bin_geq, natL_nat, natL_zero, natL_one, natL_two, Nat.zero_mul, List.any_cons, List.any_nil, Bool.or_false, Bool.false_or, Bool.true_or, Bool.or_true, Bool.and_true, Bool.true_and, Bool.and_false, Bool.false_and, Bool.not_true, Bool.not_false, Nat.reduceBEq, Nat.reduceEqDiff, decide_true, decide_false, cond_true, cond_false, List.filter_nil, List.filter_cons, Nat.reduceAdd, Nat.reduceLeDiff, reduceCtorEq, List.length_nil, List.length_cons, Nat.mul_one, if_true, if_false, Bool.false_eq_true, eq_self, and_true, true_and, retL, resultsL, resAllL, resOfL, List.append_nil, List.nil_append, List.cons_append, true_or, or_true, false_or, or_false, false_and, and_false, not_true_eq_false, not_false_eq_true, ne_eq, unL, trim_nil, views_pures, LV.pures, LV.pure, freeze, Nat.reduceDiv, Int.reduceEq, Int.reduceLT, Int.reduceLE, Int.natCast_zero, LV.cells, allocL, List.getElem?_cons_zero, List.getElem?_cons_succ, storeL, spliceL, List.take_zero, List.take_succ_cons, List.drop_zero, List.drop_succ_cons, List.drop_nil, List.take_nil, Nat.le_refl, Nat.reduceMul, List.set_cons_zero, List.set_cons_succ, LV.scalar, List.all_cons, List.all_nil, Nat.lt_add_one, Nat.zero_lt_one, Nat.lt_irrefl, fillL, List.length_append, foldIntL, kind_beq, pures_int, solids_int, plains_int, unders_int, scalars_int, h3, hd, hown, e1, e2]
      rfl
    | some q =>
      obtain ⟨f1, f2, f3⟩ := e3 q rfl
      have hq := hql q rfl
      generalize o.length = L at *
      by_cases h : L = 0
      · subst h
        obtain rfl : q = [] := List.length_eq_zero_iff.1 hq
        simp only [CV, if_true] at f2
        refine ⟨false, true, 0, fun m => call_P lp_share_Better rfl (by simp [LV.pures, LV.pure]) (m1 := m') ?_ (by simp [LV.pures, LV.pure]) m⟩
        simp only [share_Better, share_Better.B, beqT, beqF, exF_seq, exF_region, exF_block, exF_cond, exF_ret, exF_exit, exF_skip, runL, wantL, stepL, evL, LEnv.at, putL, loadFine, loadL, cellsAt, Trk.putNew, Trk.up, Trk.touch, Trk.gives, Trk.calm, Trk.hit, opdsOf, Trk.fresh, LEnv.keep, LEnv.ofFrom, List.map_cons, List.map_nil, nbeq, nble, nblt, ofAV, ofAVs, lenL, bin_add, bin_sub, bin_mul, bin_eql, bin_neq, bin_lss, bin_leq, bin_gtr, bin_geq, natL_nat, natL_zero, natL_one, natL_two, Nat.zero_mul, List.any_cons, List.any_nil, Bool.or_false, Bool.false_or, Bool.true_or, Bool.or_true, Bool.and_true, Bool.true_and, Bool.and_false, Bool.false_and, Bool.not_true, Bool.not_false, Nat.reduceBEq, Nat.reduceEqDiff, decide_true, decide_false, cond_true, cond_false, List.filter_nil, List.filter_cons, Nat.reduceAdd, Nat.reduceLeDiff, reduceCtorEq, List.length_nil, List.length_cons, Nat.mul_one, if_true, if_false, Bool.false_eq_true, eq_self, and_true, true_and, retL, resultsL, resAllL, resOfL, List.append_nil, List.nil_append, List.cons_append, true_or, or_true, false_or, or_false, false_and, and_false, not_true_eq_false, not_false_eq_true, ne_eq, unL, trim_nil, views_pures, LV.pures, LV.pure, freeze, Nat.reduceDiv, Int.reduceEq, Int.reduceLT, Int.reduceLE, Int.natCast_zero, LV.cells, allocL, List.getElem?_cons_zero, List.getElem?_cons_succ, storeL, spliceL, List.take_zero, List.take_succ_cons, List.drop_zero, List.drop_succ_cons, List.drop_nil, List.take_nil, Nat.le_refl, Nat.reduceMul, List.set_cons_zero, List.set_cons_succ, LV.scalar, List.all_cons, List.all_nil, Nat.lt_add_one, Nat.zero_lt_one, Nat.lt_irrefl, fillL, List.length_append, foldIntL, kind_beq, pures_int, solids_int, plains_int, unders_int, scalars_int, h3, hd, hown, e1, f1, f2]
        rfl
      · have f3 := f3 h
        simp only [CV, if_neg h] at f2
        have hv := view_slq m' 10 L 1 q true 0 f3 hq
        refine ⟨false, Nat.beq 1 0, 1, fun m => call_Pv lp_share_Better rfl (by simp [LV.pures, LV.pure]) ?_ hv m⟩
        simp only [share_Better, share_Better.B, beqT, beqF, exF_seq, exF_region, exF_block, exF_cond, exF_ret, exF_exit, exF_skip, runL, wantL, stepL, evL, LEnv.at, putL, loadFine, loadL, cellsAt, Trk.putNew, Trk.up, Trk.touch, Trk.gives, Trk.calm, Trk.hit, opdsOf, Trk.fresh, LEnv.keep, LEnv.ofFrom, List.map_cons, List.map_nil, nbeq, nble, nblt, ofAV, ofAVs, lenL, bin_add, bin_sub, bin_mul, bin_eql, bin_neq, bin_lss, bin_leq, bin_gtr, bin_geq, natL_nat, natL_zero, natL_one, natL_two, Nat.zero_mul, List.any_cons, List.any_nil, Bool.or_false, Bool.false_or, Bool.true_or, Bool.or_true, Bool.and_true, Bool.true_and, Bool.and_false, Bool.false_and, Bool.not_true, Bool.not_false, Nat.reduceBEq, Nat.reduceEqDiff, decide_true, decide_false, cond_true, cond_false, List.filter_nil, List.filter_cons, Nat.reduceAdd, Nat.reduceLeDiff, reduceCtorEq, List.length_nil, List.length_cons, Nat.mul_one, if_true, if_false, Bool.false_eq_true, eq_self, and_true, true_and, retL, resultsL, resAllL, resOfL, List.append_nil, List.nil_append, List.cons_append, true_or, or_true, false_or, or_false, false_and, and_false, not_true_eq_false, not_false_eq_true, ne_eq, unL, trim_nil, views_pures, LV.pures, LV.pure, freeze, Nat.reduceDiv, Int.reduceEq, Int.reduceLT, Int.reduceLE, Int.natCast_zero, LV.cells, allocL, List.getElem?_cons_zero, List.getElem?_cons_succ, storeL, spliceL, List.take_zero, List.take_succ_cons, List.drop_zero, List.drop_succ_cons, List.drop_nil, List.take_nil, Nat.le_refl, Nat.reduceMul, List.set_cons_zero, List.set_cons_succ, LV.scalar, List.all_cons, List.all_nil, Nat.lt_add_one, Nat.zero_lt_one, Nat.lt_irrefl, fillL, List.length_append, foldIntL, kind_beq, pures_int, solids_int, plains_int, unders_int, scalars_int, h3, hd, hown, e1, f1, f2]
  · have h1 := h1 hd
    rw [if_neg hd, if_pos (by simpa using hd)]
    refine ⟨true, true, 0, fun m => call_P lp_share_Better rfl (by simp [LV.pures, LV.pure]) (m1 := [⟨[LNIL, LNIL], true⟩]) ?_ (by simp [LV.pures, LV.pure]) m⟩
    simp only [share_Better, share_Better.B, beqT, beqF, exF_seq, exF_region, exF_block, exF_cond, exF_ret, exF_exit, exF_skip, runL, wantL, stepL, evL, LEnv.at, putL, loadFine, loadL, cellsAt, Trk.putNew, Trk.up, Trk.touch, Trk.gives, Trk.calm, Trk.hit, opdsOf, Trk.fresh, LEnv.keep, LEnv.ofFrom, List.map_cons, List.map_nil, nbeq, nble, nblt, ofAV, ofAVs, lenL, bin_add, bin_sub, bin_mul, bin_eql, bin_neq, bin_lss, bin_leq, bin_gtr, bin_geq, natL_nat, natL_zero, natL_one, natL_two, Nat.zero_mul, List.any_cons, List.any_nil, Bool.or_false, Bool.false_or, Bool.true_or, Bool.or_true, Bool.and_true, Bool.true_and, Bool.and_false, Bool.false_and, Bool.not_true, Bool.not_false, Nat.reduceBEq, Nat.reduceEqDiff, decide_true, decide_false, cond_true, cond_false, List.filter_nil, List.filter_cons, Nat.reduceAdd, Nat.reduceLeDiff, reduceCtorEq, List.length_nil, List.length_cons, Nat.mul_one, if_true, if_false, Bool.false_eq_true, eq_self, and_true, true_and, retL, resultsL, resAllL, resOfL, List.append_nil, List.nil_append, List.cons_append, true_or, or_true, false_or, or_false, false_and, and_false, not_true_eq_false, not_false_eq_true, ne_eq, unL, trim_nil, views_pures, LV.pures, LV.pure, freeze, Nat.reduceDiv, Int.reduceEq, Int.reduceLT, Int.reduceLE, Int.natCast_zero, LV.cells, allocL, List.getElem?_cons_zero, List.getElem?_cons_succ, storeL, spliceL, List.take_zero, List.take_succ_cons, List.drop_zero, List.drop_succ_cons, List.drop_nil, List.take_nil, Nat.le_refl, Nat.reduceMul, List.set_cons_zero, List.set_cons_succ, LV.scalar, List.all_cons, List.all_nil, Nat.lt_add_one, Nat.zero_lt_one, Nat.lt_irrefl, fillL, List.length_append, foldIntL, kind_beq, pures_int, solids_int, plains_int, unders_int, scalars_int, h1, hd]
    rfl
/-! ### Products -/
def prodF : List Int → Int × Int → Int × Int
  | [], a => a
  | w :: r, a => prodF r (if 0 < w then (IntKind.i64.wrap (a.1 + 1), IntKind.i64.wrap (a.2 * w)) else a)
theorem rprod_loop (nl ex nl' ex' : Bool) (sz sz' : Nat) {rs : List Row} {o : List Int} (D : DOk rs o) (n : Nat) : ∀ (k : Nat) (a : Int × Int), k + n = rs.length →
    exF LP ref07_product.L0 [(0, VL nl ex sz rs), (1, IL nl' ex' sz' o), (6, .int .i64 a.1), (7, .int .i64 a.2), (8, .int .i64 (k : Int))] [] =
      some (.exit 0, [(6, .int .i64 (prodF (ownL (vals rs) o k n) a).1), (7, .int .i64 (prodF (ownL (vals rs) o k n) a).2)], []) := by
  have h4 := D.le4
  induction n with
  | zero =>
    intro k a hk
    rw [ref07_product.L0_eq]
    simp only [ref07_product.B0, beqT, beqF, exF_seq, exF_region, exF_block, exF_cond, exF_ret, exF_exit, exF_skip, runL, wantL, stepL, evL, LEnv.at, putL, loadFine, loadL, cellsAt, Trk.putNew, Trk.up, Trk.touch, Trk.gives, Trk.calm, Trk.hit, opdsOf, Trk.fresh, LEnv.keep, LEnv.ofFrom, List.map_cons, List.map_nil, nbeq, nble, nblt, ofAV, ofAVs, lenL, bin_add, bin_sub, bin_mul, bin_eql, bin_neq, bin_lss, bin_leq, bin_gtr, bin_geq, natL_nat, natL_zero, natL_one, natL_two, Nat.zero_mul, List.any_cons, List.any_nil, Bool.or_false, Bool.false_or, Bool.true_or, Bool.or_true, Bool.and_true, Bool.true_and, Bool.and_false, Bool.false_and, Bool.not_true, Bool.not_false, Nat.reduceBEq, Nat.reduceEqDiff, decide_true, decide_false, cond_true, cond_false, List.filter_nil, List.filter_cons, Nat.reduceAdd, Nat.reduceLeDiff, reduceCtorEq, List.length_nil, List.length_cons, Nat.mul_one, if_true, if_false, Bool.false_eq_true, eq_self, and_true, true_and, retL, resultsL, resAllL, resOfL, List.append_nil, List.nil_append, List.cons_append, true_or, or_true, false_or, or_false, false_and, and_false, not_true_eq_false, not_false_eq_true, ne_eq, unL, trim_nil, views_pures, LV.pures, LV.pure, freeze, Nat.reduceDiv, Int.reduceEq, Int.reduceLT, Int.reduceLE, Int.natCast_zero, LV.cells, allocL, List.getElem?_cons_zero, List.getElem?_cons_succ, storeL, spliceL, List.take_zero, List.take_succ_cons, List.drop_zero, List.drop_succ_cons, List.drop_nil, List.take_nil, Nat.le_refl, Nat.reduceMul, List.set_cons_zero, List.set_cons_succ, LV.scalar, List.all_cons, List.all_nil, Nat.lt_add_one, Nat.zero_lt_one, Nat.lt_irrefl, fillL, List.length_append, foldIntL, kind_beq, pures_int, solids_int, plains_int, unders_int, scalars_int, show ¬ ((k : Int) < (rs.length : Int)) by omega, ownL, List.range'_zero, List.map_nil, prodF]
  | succ n ih =>
    intro k a hk
    have h2 : k < rs.length := by omega
    have hw := worth_d nl ex nl' ex' sz sz' D h2 k
    rw [ref07_product.L0_eq, ownL_succ, prodF]
    by_cases h : 0 < ws (k : Int) ((vals rs).getD k []) o 0
    · have ih := ih (k + 1) (IntKind.i64.wrap (a.1 + 1), IntKind.i64.wrap (a.2 * ws (k : Int) ((vals rs).getD k []) o 0)) (by omega)
      simp only [ref07_product.B0, beqT, beqF, exF_seq, exF_region, exF_block, exF_cond, exF_ret, exF_exit, exF_skip, runL, wantL, stepL, evL, LEnv.at, putL, loadFine, loadL, cellsAt, Trk.putNew, Trk.up, Trk.touch, Trk.gives, Trk.calm, Trk.hit, opdsOf, Trk.fresh, LEnv.keep, LEnv.ofFrom, List.map_cons, List.map_nil, nbeq, nble, nblt, ofAV, ofAVs, lenL, bin_add, bin_sub, bin_mul, bin_eql, bin_neq, bin_lss, bin_leq, bin_gtr, bin_geq, natL_nat, natL_zero, natL_one, natL_two, Nat.zero_mul, List.any_cons, List.any_nil, Bool.or_false, Bool.false_or, Bool.true_or, Bool.or_true, Bool.and_true, Bool.true_and, Bool.and_false, Bool.false_and, Bool.not_true, Bool.not_false, Nat.reduceBEq, Nat.reduceEqDiff, decide_true, decide_false, cond_true, cond_false, List.filter_nil, List.filter_cons, Nat.reduceAdd, Nat.reduceLeDiff, reduceCtorEq, List.length_nil, List.length_cons, Nat.mul_one, if_true, if_false, Bool.false_eq_true, eq_self, and_true, true_and, retL, resultsL, resAllL, resOfL, List.append_nil, List.nil_append, List.cons_append, true_or, or_true, false_or, or_false, false_and, and_false, not_true_eq_false, not_false_eq_true, ne_eq, unL, trim_nil, views_pures, LV.pures, LV.pure, freeze, Nat.reduceDiv, Int.reduceEq, Int.reduceLT, Int.reduceLE, Int.natCast_zero, LV.cells, allocL, List.getElem?_cons_zero, List.getElem?_cons_succ, storeL, spliceL, List.take_zero, List.take_succ_cons, List.drop_zero, List.drop_succ_cons, List.drop_nil, List.take_nil, Nat.le_refl, Nat.reduceMul, List.set_cons_zero, List.set_cons_succ, LV.scalar, List.all_cons, List.all_nil, Nat.lt_add_one, Nat.zero_lt_one, Nat.lt_irrefl, fillL, List.length_append, foldIntL, kind_beq, pures_int, solids_int, plains_int, unders_int, scalars_int, show ((k : Int) < (rs.length : Int)) by omega, hw, h, wrap_succ (show k + 1 < 9223372036854775808 by omega), ih]
    · have ih := ih (k + 1) a (by omega)
      simp only [ref07_product.B0, beqT, beqF, exF_seq, exF_region, exF_block, exF_cond, exF_ret, exF_exit, exF_skip, runL, wantL, stepL, evL, LEnv.at, putL, loadFine, loadL, cellsAt, Trk.putNew, Trk.up, Trk.touch, Trk.gives, Trk.calm, Trk.hit, opdsOf, Trk.fresh, LEnv.keep, LEnv.ofFrom, List.map_cons, List.map_nil, nbeq, nble, nblt, ofAV, ofAVs, lenL, bin_add, bin_sub, bin_mul, bin_eql, bin_neq, bin_lss, bin_leq, bin_gtr, bin_geq, natL_nat, natL_zero, natL_one, natL_two, Nat.zero_mul, List.any_cons, List.any_nil, Bool.or_false, Bool.false_or, Bool.true_or, Bool.or_true, Bool.and_true, Bool.true_and, Bool.and_false, Bool.false_and, Bool.not_true, Bool.not_false, Nat.reduceBEq, Nat.reduceEqDiff, decide_true, decide_false, cond_true, cond_false, List.filter_nil, List.filter_cons, Nat.reduceAdd, Nat.reduceLeDiff, reduceCtorEq, List.length_nil, List.length_cons, Nat.mul_one, if_true, if_false, Bool.false_eq_true, eq_self, and_true, true_and, retL, resultsL, resAllL, resOfL, List.append_nil, List.nil_append, List.cons_append, true_or, or_true, false_or, or_false, false_and, and_false, not_true_eq_false, not_false_eq_true, ne_eq, unL, trim_nil, views_pures, LV.pures, LV.pure, freeze, Nat.reduceDiv, Int.reduceEq, Int.reduceLT, Int.reduceLE, Int.natCast_zero, LV.cells, allocL, List.getElem?_cons_zero, List.getElem?_cons_succ, storeL, spliceL, List.take_zero, List.take_succ_cons, List.drop_zero, List.drop_succ_cons, List.drop_nil, List.take_nil, Nat.le_refl, Nat.reduceMul, List.set_cons_zero, List.set_cons_succ, LV.scalar, List.all_cons, List.all_nil, Nat.lt_add_one, Nat.zero_lt_one, Nat.lt_irrefl, fillL, List.length_append, foldIntL, kind_beq, pures_int, solids_int, plains_int, unders_int, scalars_int, show ((k : Int) < (rs.length : Int)) by omega, hw, h, wrap_succ (show k + 1 < 9223372036854775808 by omega), ih]
def prodO (V : List (List Int)) (o : List Int) : Int × Int := prodF (ownL V o 0 V.length) (0, 1)
theorem rprod_c (nl ex nl' ex' : Bool) (sz sz' : Nat) {rs : List Row} {o : List Int} (D : DOk rs o) (m : LMem) : clF LP n_ref07_product [VL nl ex sz rs, IL nl' ex' sz' o] m = some (.P, .tup [.int .i64 (prodO (vals rs) o).1, .int .i64 (prodO (vals rs) o).2], m) := by
  refine call_P lp_ref07_product rfl (by simp [LV.pures, LV.pure]) (m1 := []) ?_ rfl m
  have h := rprod_loop nl ex nl' ex' sz sz' D rs.length 0 (0, 1) (by omega)
  unfold prodO
  rw [vals_length]
  simp only [Int.natCast_zero] at h
  simp only [ref07_product, ref07_product.B, beqT, beqF, exF_seq, exF_region, exF_block, exF_cond, exF_ret, exF_exit, exF_skip, runL, wantL, stepL, evL, LEnv.at, putL, loadFine, loadL, cellsAt, Trk.putNew, Trk.up, Trk.touch, Trk.gives, Trk.calm, Trk.hit, opdsOf, Trk.fresh, LEnv.keep, LEnv.ofFrom, List.map_cons, List.map_nil, nbeq, nble, nblt, ofAV, ofAVs, lenL, bin_add, bin_sub, bin_mul, bin_eql, bin_neq, bin_lss, bin_leq, bin_gtr, bin_geq, natL_nat, natL_zero, natL_one, natL_two, Nat.zero_mul, List.any_cons, List.any_nil, Bool.or_false, Bool.false_or, Bool.true_or, Bool.or_true, Bool.and_true, Bool.true_and, Bool.and_false, Bool.false_and, Bool.not_true, Bool.not_false, Nat.reduceBEq, Nat.reduceEqDiff, decide_true, decide_false, cond_true, cond_false, List.filter_nil, List.filter_cons, Nat.reduceAdd, Nat.reduceLeDiff, reduceCtorEq, List.length_nil, List.length_cons, Nat.mul_one, if_true, if_false, Bool.false_eq_true, eq_self, and_true, true_and, retL, resultsL, resAllL, resOfL, List.append_nil, List.nil_append, List.cons_append, true_or, or_true, false_or, or_false, false_and, and_false, not_true_eq_false, not_false_eq_true, ne_eq, unL, trim_nil, views_pures, LV.pures, LV.pure, freeze, Nat.reduceDiv, Int.reduceEq, Int.reduceLT, Int.reduceLE, Int.natCast_zero, LV.cells, allocL, List.getElem?_cons_zero, List.getElem?_cons_succ, storeL, spliceL, List.take_zero, List.take_succ_cons, List.drop_zero, List.drop_succ_cons, List.drop_nil, List.take_nil, Nat.le_refl, Nat.reduceMul, List.set_cons_zero, List.set_cons_succ, LV.scalar, List.all_cons, List.all_nil, Nat.lt_add_one, Nat.zero_lt_one, Nat.lt_irrefl, fillL, List.length_append, foldIntL, kind_beq, pures_int, solids_int, plains_int, unders_int, scalars_int, h]
/-- Is a product greater than another one? -/
def gtP (a b : Int × Int) : Bool := decide (b.1 < a.1) || (decide (a.1 = b.1) && decide (b.2 < a.2))
/-- The first of the greatest. -/
def mostF (V : List (List Int)) : List Int → List (List Int) → List Int
  | b, [] => b
  | b, x :: xs => mostF V (if gtP (prodO V x) (prodO V b) then x else b) xs
theorem rmost_loop (nl ex : Bool) (sz : Nat) {rs : List Row} {t : Nat} (D : VOk rs t) (P : List (List Int)) (hP : P.length < 10000) (hp : ∀ q ∈ P, q.length = t) (n : Nat) : ∀ (k : Nat) (b : List Int), k + n = P.length → b.length = t →
    exF LP ref07_Most.L0 [(0, VL nl ex sz rs), (5, DL t P), (6, dv t b), (7, .int .i64 (k : Int))] [] =
      some (.exit 0, [(6, dv t (mostF (vals rs) b (P.drop k)))], []) := by
  induction n with
  | zero =>
    intro k b hk hb
    rw [ref07_Most.L0_eq, List.drop_eq_nil_of_le (show P.length ≤ k by omega), mostF]
    simp only [ref07_Most.B0, beqT, beqF, exF_seq, exF_region, exF_block, exF_cond, exF_ret, exF_exit, exF_skip, runL, wantL, stepL, evL, LEnv.at, putL, loadFine, loadL, cellsAt, Trk.putNew, Trk.up, Trk.touch, Trk.gives, Trk.calm, Trk.hit, opdsOf, Trk.fresh, LEnv.keep, LEnv.ofFrom, List.map_cons, List.map_nil, nbeq, nble, nblt, ofAV, ofAVs, lenL, bin_add, bin_sub, bin_mul, bin_eql, bin_neq, bin_lss, bin_leq, bin_gtr, bin_geq, natL_nat, natL_zero, natL_one, natL_two, Nat.zero_mul, List.any_cons, List.any_nil, Bool.or_false, Bool.false_or, Bool.true_or, Bool.or_true, Bool.and_true, Bool.true_and, Bool.and_false, Bool.false_and, Bool.not_true, Bool.not_false, Nat.reduceBEq, Nat.reduceEqDiff, decide_true, decide_false, cond_true, cond_false, List.filter_nil, List.filter_cons, Nat.reduceAdd, Nat.reduceLeDiff, reduceCtorEq, List.length_nil, List.length_cons, Nat.mul_one, if_true, if_false, Bool.false_eq_true, eq_self, and_true, true_and, retL, resultsL, resAllL, resOfL, List.append_nil, List.nil_append, List.cons_append, true_or, or_true, false_or, or_false, false_and, and_false, not_true_eq_false, not_false_eq_true, ne_eq, unL, trim_nil, views_pures, LV.pures, LV.pure, freeze, Nat.reduceDiv, Int.reduceEq, Int.reduceLT, Int.reduceLE, Int.natCast_zero, LV.cells, allocL, List.getElem?_cons_zero, List.getElem?_cons_succ, storeL, spliceL, List.take_zero, List.take_succ_cons, List.drop_zero, List.drop_succ_cons, List.drop_nil, List.take_nil, Nat.le_refl, Nat.reduceMul, List.set_cons_zero, List.set_cons_succ, LV.scalar, List.all_cons, List.all_nil, Nat.lt_add_one, Nat.zero_lt_one, Nat.lt_irrefl, fillL, List.length_append, foldIntL, kind_beq, pures_int, solids_int, plains_int, unders_int, scalars_int, show ¬ ((k : Int) < (P.length : Int)) by omega]
  | succ n ih =>
    intro k b hk hb
    have h2 : k < P.length := by omega
    have hq := hp _ (List.getElem_mem h2)
    have d1 := dok_len D hb
    have d2 := dok_len D hq
    have p1 := rprod_c nl ex false (decide (t = 0)) sz (cond (decide (t = 0)) 0 1) d1
    have p2 := rprod_c nl ex false (decide (t = 0)) sz (cond (decide (t = 0)) 0 1) d2
    have hws := wrap_succ (show k + 1 < 9223372036854775808 by omega)
    have ih1 := ih (k + 1) P[k] (by omega) hq
    have ih2 := ih (k + 1) b (by omega) hb
    rw [ref07_Most.L0_eq, List.drop_eq_getElem_cons h2, mostF]
    unfold gtP
    by_cases c1 : (prodO (vals rs) b).1 < (prodO (vals rs) P[k]).1
    · simp only [ref07_Most.B0, beqT, beqF, exF_seq, exF_region, exF_block, exF_cond, exF_ret, exF_exit, exF_skip, runL, wantL, stepL, evL, LEnv.at, putL, loadFine, loadL, cellsAt, Trk.putNew, Trk.up, Trk.touch, Trk.gives, Trk.calm, Trk.hit, opdsOf, Trk.fresh, LEnv.keep, LEnv.ofFrom, List.map_cons, List.map_nil, nbeq, nble, nblt, ofAV, ofAVs, lenL, bin_add, bin_sub, bin_mul, bin_eql, bin_neq, bin_lss, bin_leq, bin_gtr, bin_geq, natL_nat, natL_zero, natL_one, natL_two, Nat.zero_mul, List.any_cons, List.any_nil, Bool.or_false, Bool.false_or, Bool.true_or, Bool.or_true, Bool.and_true, Bool.true_and, Bool.and_false, Bool.false_and, Bool.not_true, Bool.not_false, Nat.reduceBEq, Nat.reduceEqDiff, decide_true, decide_false, cond_true, cond_false, List.filter_nil, List.filter_cons, Nat.reduceAdd, Nat.reduceLeDiff, reduceCtorEq, List.length_nil, List.length_cons, Nat.mul_one, if_true, if_false, Bool.false_eq_true, eq_self, and_true, true_and, retL, resultsL, resAllL, resOfL, List.append_nil, List.nil_append, List.cons_append, true_or, or_true, false_or, or_false, false_and, and_false, not_true_eq_false, not_false_eq_true, ne_eq, unL, trim_nil, views_pures, LV.pures, LV.pure, freeze, Nat.reduceDiv, Int.reduceEq, Int.reduceLT, Int.reduceLE, Int.natCast_zero, LV.cells, allocL, List.getElem?_cons_zero, List.getElem?_cons_succ, storeL, spliceL, List.take_zero, List.take_succ_cons, List.drop_zero, List.drop_succ_cons, List.drop_nil, List.take_nil, Nat.le_refl, Nat.reduceMul, List.set_cons_zero, List.set_cons_succ, LV.scalar, List.all_cons, List.all_nil, Nat.lt_add_one, Nat.zero_lt_one, Nat.lt_irrefl, fillL, List.length_append, foldIntL, kind_beq, pures_int, solids_int, plains_int, unders_int, scalars_int, show ((k : Int) < (P.length : Int)) by omega, h2, dv_at _ _ _ h2, p1, p2, c1, hws, ih1]
    · by_cases c2 : (prodO (vals rs) P[k]).1 = (prodO (vals rs) b).1
      · by_cases c3 : (prodO (vals rs) b).2 < (prodO (vals rs) P[k]).2
        · simp only [ref07_Most.B0, beqT, beqF, exF_seq, exF_region, exF_block, exF_cond, exF_ret, exF_exit, exF_skip, runL, wantL, stepL, evL, LEnv.at, putL, loadFine, loadL, cellsAt, Trk.putNew, Trk.up, Trk.touch, Trk.gives, Trk.calm, Trk.hit, opdsOf, Trk.fresh, LEnv.keep, LEnv.ofFrom, List.map_cons, List.map_nil, nbeq, nble, nblt, ofAV, ofAVs, lenL, bin_add, bin_sub, bin_mul, bin_eql, bin_neq, bin_lss, bin_leq, bin_gtr, bin_geq, natL_nat, natL_zero, natL_one, natL_two, Nat.zero_mul, List.any_cons, List.any_nil, Bool.or_false, Bool.false_or, Bool.true_or, Bool.or_true, Bool.and_true, Bool.true_and, Bool.and_false, Bool.false_and, Bool.not_true, Bool.not_false, Nat.reduceBEq, Nat.reduceEqDiff, decide_true, decide_false, cond_true, cond_false, List.filter_nil, List.filter_cons, Nat.reduceAdd, Nat.reduceLeDiff, reduceCtorEq, List.length_nil, List.length_cons, Nat.mul_one, if_true, if_false, Bool.false_eq_true, eq_self, and_true, true_and, retL, resultsL, resAllL, resOfL, List.append_nil, List.nil_append, List.cons_append, true_or, or_true, false_or, or_false, false_and, and_false, not_true_eq_false, not_false_eq_true, ne_eq, unL, trim_nil, views_pures, LV.pures, LV.pure, freeze, Nat.reduceDiv, Int.reduceEq, Int.reduceLT, Int.reduceLE, Int.natCast_zero, LV.cells, allocL, List.getElem?_cons_zero, List.getElem?_cons_succ, storeL, spliceL, List.take_zero, List.take_succ_cons, List.drop_zero, List.drop_succ_cons, List.drop_nil, List.take_nil, Nat.le_refl, Nat.reduceMul, List.set_cons_zero, List.set_cons_succ, LV.scalar, List.all_cons, List.all_nil, Nat.lt_add_one, Nat.zero_lt_one, Nat.lt_irrefl, fillL, List.length_append, foldIntL, kind_beq, pures_int, solids_int, plains_int, unders_int, scalars_int, show ((k : Int) < (P.length : Int)) by omega, h2, dv_at _ _ _ h2, p1, p2, c1, c2, c3, hws, ih1, Int.lt_irrefl]
        · simp only [ref07_Most.B0, beqT, beqF, exF_seq, exF_region, exF_block, exF_cond, exF_ret, exF_exit, exF_skip, runL, wantL, stepL, evL, LEnv.at, putL, loadFine, loadL, cellsAt, Trk.putNew, Trk.up, Trk.touch, Trk.gives, Trk.calm, Trk.hit, opdsOf, Trk.fresh, LEnv.keep, LEnv.ofFrom, List.map_cons, List.map_nil, nbeq, nble, nblt, ofAV, ofAVs, lenL, bin_add, bin_sub, bin_mul, bin_eql, bin_neq, bin_lss, bin_leq, bin_gtr, bin_geq, natL_nat, natL_zero, natL_one, natL_two, Nat.zero_mul, List.any_cons, List.any_nil, Bool.or_false, Bool.false_or, Bool.true_or, Bool.or_true, Bool.and_true, Bool.true_and, Bool.and_false, Bool.false_and, Bool.not_true, Bool.not_false, Nat.reduceBEq, Nat.reduceEqDiff, decide_true, decide_false, cond_true, cond_false, List.filter_nil, List.filter_cons, Nat.reduceAdd, Nat.reduceLeDiff, reduceCtorEq, List.length_nil, List.length_cons, Nat.mul_one, if_true, if_false, Bool.false_eq_true, eq_self, and_true, true_and, retL, resultsL, resAllL, resOfL, List.append_nil, List.nil_append, List.cons_append, true_or, or_true, false_or, or_false, false_and, and_false, not_true_eq_false, not_false_eq_true, ne_eq, unL, trim_nil, views_pures, LV.pures, LV.pure, freeze, Nat.reduceDiv, Int.reduceEq, Int.reduceLT, Int.reduceLE, Int.natCast_zero, LV.cells, allocL, List.getElem?_cons_zero, List.getElem?_cons_succ, storeL, spliceL, List.take_zero, List.take_succ_cons, List.drop_zero, List.drop_succ_cons, List.drop_nil, List.take_nil, Nat.le_refl, Nat.reduceMul, List.set_cons_zero, List.set_cons_succ, LV.scalar, List.all_cons, List.all_nil, Nat.lt_add_one, Nat.zero_lt_one, Nat.lt_irrefl, fillL, List.length_append, foldIntL, kind_beq, pures_int, solids_int, plains_int, unders_int, scalars_int, show ((k : Int) < (P.length : Int)) by omega, h2, dv_at _ _ _ h2, p1, p2, c1, c2, c3, hws, ih2, Int.lt_irrefl]
      · simp only [ref07_Most.B0, beqT, beqF, exF_seq, exF_region, exF_block, exF_cond, exF_ret, exF_exit, exF_skip, runL, wantL, stepL, evL, LEnv.at, putL, loadFine, loadL, cellsAt, Trk.putNew, Trk.up, Trk.touch, Trk.gives, Trk.calm, Trk.hit, opdsOf, Trk.fresh, LEnv.keep, LEnv.ofFrom, List.map_cons, List.map_nil, nbeq, nble, nblt, ofAV, ofAVs, lenL, bin_add, bin_sub, bin_mul, bin_eql, bin_neq, bin_lss, bin_leq, bin_gtr, bin_geq, natL_nat, natL_zero, natL_one, natL_two, Nat.zero_mul, List.any_cons, List.any_nil, Bool.or_false, Bool.false_or, Bool.true_or, Bool.or_true, Bool.and_true, Bool.true_and, Bool.and_false, Bool.false_and, Bool.not_true, Bool.not_false, Nat.reduceBEq, Nat.reduceEqDiff, decide_true, decide_false, cond_true, cond_false, List.filter_nil, List.filter_cons, Nat.reduceAdd, Nat.reduceLeDiff, reduceCtorEq, List.length_nil, List.length_cons, Nat.mul_one, if_true, if_false, Bool.false_eq_true, eq_self, and_true, true_and, retL, resultsL, resAllL, resOfL, List.append_nil, List.nil_append, List.cons_append, true_or, or_true, false_or, or_false, false_and, and_false, not_true_eq_false, not_false_eq_true, ne_eq, unL, trim_nil, views_pures, LV.pures, LV.pure, freeze, Nat.reduceDiv, Int.reduceEq, Int.reduceLT, Int.reduceLE, Int.natCast_zero, LV.cells, allocL, List.getElem?_cons_zero, List.getElem?_cons_succ, storeL, spliceL, List.take_zero, List.take_succ_cons, List.drop_zero, List.drop_succ_cons, List.drop_nil, List.take_nil, Nat.le_refl, Nat.reduceMul, List.set_cons_zero, List.set_cons_succ, LV.scalar, List.all_cons, List.all_nil, Nat.lt_add_one, Nat.zero_lt_one, Nat.lt_irrefl, fillL, List.length_append, foldIntL, kind_beq, pures_int, solids_int, plains_int, unders_int, scalars_int, show ((k : Int) < (P.length : Int)) by omega, h2, dv_at _ _ _ h2, p1, p2, c1, c2, hws, ih2]
end Go.Am.Share


