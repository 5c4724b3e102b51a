import Derived.Test.YtcckhkcchpfdoaaShareC27
/-
  What functions of chapter 07 compute, 31: better divisions.
-/
set_option linter.unusedVariables false
set_option linter.unusedSimpArgs false
set_option maxRecDepth 10000
namespace Go.Am.Share
/-- Is the first list better than the second one? -/
def betL : List Int → List Int → Bool → Bool
  | x :: xs, y :: ys, m => if x < y then false else betL xs ys (m || decide (y < x))
  | _, _, m => m
def betS : List Int → List Int → Int → Option Int
  | x :: xs, y :: ys, s => if x < y then none else betS xs ys (IntKind.i64.wrap (s + IntKind.i64.wrap (x - y)))
  | _, _, s => some s
theorem betS_L : ∀ (xs ys : List Int) (s : Int), xs.length = ys.length → (∀ x ∈ xs, 0 ≤ x ∧ x ≤ 1000) → (∀ x ∈ ys, 0 ≤ x ∧ x ≤ 1000) → 0 ≤ s → s + 1000 * xs.length ≤ 1000000 → (match betS xs ys s with | some d => decide (0 < d) | none => false) = betL xs ys (decide (0 < s))
  | [], ys, s, _, _, _, _, _ => by cases ys <;> rfl
  | x :: xs, [], s, h, _, _, _, _ => by simp at h
  | x :: xs, y :: ys, s, h, h1, h2, h3, h4 => by
    have a := h1 x (by simp)
    have b := h2 y (by simp)
    simp only [List.length_cons] at h h4
    rw [betS, betL]
    by_cases c : x < y
    · rw [if_pos c, if_pos c]
    · rw [if_neg c, if_neg c]
      have w1 : IntKind.i64.wrap (x - y) = x - y := wrap_in (by omega)
      have w2 : IntKind.i64.wrap (s + (x - y)) = s + (x - y) := wrap_in (by omega)
      rw [w1, w2, betS_L xs ys _ (by omega) (fun z hz => h1 z (by simp [hz])) (fun z hz => h2 z (by simp [hz])) (by omega) (by omega)]
      congr 1
      rw [Bool.eq_iff_iff, Bool.or_eq_true, decide_eq_true_eq, decide_eq_true_eq, decide_eq_true_eq]
      omega
def better (V : List (List Int)) (a b : List Int) : Bool := betL (ownL V a 0 V.length) (ownL V b 0 V.length) false
theorem ownL_length (V : List (List Int)) (o : List Int) (k n : Nat) : (ownL V o k n).length = n := by simp [ownL]
theorem ownL_bound {rs : List Row} {o : List Int} (D : DOk rs o) : ∀ x ∈ ownL (vals rs) o 0 rs.length, 0 ≤ x ∧ x ≤ 1000 := by
  intro x hx
  simp only [ownL, List.mem_map, List.mem_range'_1] at hx
  obtain ⟨i, hi, rfl⟩ := hx
  have hi2 : i < rs.length := by omega
  rw [vals_at rs i hi2]
  have := ws_bound (i : Int) rs[i].l o 0 (D.ok i hi2) (by omega)
  have := D.len i hi2
  have := D.le6
  omega
/-! ### The reference's -/
theorem dok_same {rs : List Row} {o o' : List Int} (D : DOk rs o) (h : o'.length = o.length) : DOk rs o' :=
  ⟨D.pos, D.le4, fun i hi => by rw [h]; exact D.len i hi, D.ok, by rw [h]; exact D.le6⟩
def betterE (V : List (List Int)) (o : List Int) : Int := if divE V o ≠ 0 then divE V o else if (allD V.length (V.getD 0 []).length).find? (fun q => better V q o) = none then 13 else 0
def betterV (V : List (List Int)) (o : List Int) : List Int := if divE V o = 0 then ((allD V.length (V.getD 0 []).length).find? fun q => better V q o).getD [] else []
end Go.Am.Share

/-
  What functions of chapter 07 compute, 32: the program's better division.
-/
set_option linter.unusedVariables false
set_option linter.unusedSimpArgs false
set_option maxRecDepth 10000
namespace Go.Am.Share
def betB (V : List (List Int)) (old o : List Int) : Bool := match betS (ownL V o 0 V.length) old 0 with | some d => decide (0 < d) | none => false
theorem bet_loop (own old : List Int) (hlo : own.length = old.length) (hs : own.length < 1000) (m : LMem) (hm : m[1]? = some ⟨[IL false false 1 old], true⟩) (n : Nat) : ∀ (k : Nat) (s : Int), k + n = own.length →
    exF LP share_Better_1.L0 [(1, .ptr 1 0 1), (2, .ptr 2 0 1), (3, .ptr 3 0 1), (4, .ptr 9 0 2), (6, .int .i64 s), (10, IL false false 1 own), (11, .int .i64 (own.length : Int)), (12, .int .i64 (k : Int))] m =
      match betS (own.drop k) (old.drop k) s with
      | none => some (.ret, [(5, .bool true)], m)
      | some d => some (.exit 0, [(2, .ptr 2 0 1), (3, .ptr 3 0 1), (4, .ptr 9 0 2), (6, .int .i64 d)], m) := by
  induction n with
  | zero =>
    intro k s hk
    rw [share_Better_1.L0_eq, List.drop_eq_nil_of_le (show own.length ≤ k by omega), List.drop_eq_nil_of_le (show old.length ≤ k by omega)]
    simp only [share_Better_1.B0, beqT, beqF, exF_seq, exF_region, exF_block, exF_cond, exF_ret, exF_exit, exF_skip, runL, wantL, stepL, evL, evC, LEnv.at, putL, loadFine, loadL, cellsAt, Trk.putNew, Trk.up, Trk.touch, Trk.gives, Trk.calm, Trk.hit, opdsOf, Trk.fresh, LEnv.keep, LEnv.ofFrom, List.map_cons, List.map_nil, nbeq, nble, nblt, ofAV, ofAVs, lenL, bin_add, bin_sub, bin_mul, bin_eql, bin_neq, bin_lss, bin_leq, bin_gtr, bin_geq, natL_nat, natL_zero, natL_one, natL_two, Nat.zero_mul, List.any_cons, List.any_nil, Bool.or_false, Bool.false_or, Bool.true_or, Bool.or_true, Bool.and_true, Bool.true_and, Bool.and_false, Bool.false_and, Bool.not_true, Bool.not_false, Nat.reduceBEq, Nat.reduceEqDiff, decide_true, decide_false, cond_true, cond_false, List.filter_nil, List.filter_cons, Nat.reduceAdd, Nat.reduceLeDiff, reduceCtorEq, List.length_nil, List.length_cons, Nat.mul_one, if_true, if_false, Bool.false_eq_true, eq_self, and_true, true_and, retL, resultsL, resAllL, resOfL, List.append_nil, List.nil_append, List.cons_append, true_or, or_true, false_or, or_false, false_and, and_false, not_true_eq_false, not_false_eq_true, ne_eq, unL, trim_nil, views_pures, LV.pures, LV.pure, freeze, Nat.reduceDiv, Int.reduceEq, Int.reduceLT, Int.reduceLE, Int.natCast_zero, LV.cells, allocL, List.getElem?_cons_zero, List.getElem?_cons_succ, storeL, spliceL, List.take_zero, List.take_succ_cons, List.drop_zero, List.drop_succ_cons, List.drop_nil, List.take_nil, Nat.le_refl, Nat.reduceMul, List.set_cons_zero, List.set_cons_succ, LV.scalar, List.all_cons, List.all_nil, Nat.lt_add_one, Nat.zero_lt_one, Nat.reduceLT, Nat.lt_irrefl, fillL, List.length_append, foldIntL, kind_beq, pures_int, solids_int, plains_int, unders_int, scalars_int, show ¬ ((k : Int) < (own.length : Int)) by omega, betS]
  | succ n ih =>
    intro k s hk
    have h2 : k < own.length := by omega
    have h3 : k < old.length := by omega
    rw [share_Better_1.L0_eq, List.drop_eq_getElem_cons h2, List.drop_eq_getElem_cons h3, betS]
    by_cases h : own[k] < old[k]
    · simp only [share_Better_1.B0, beqT, beqF, exF_seq, exF_region, exF_block, exF_cond, exF_ret, exF_exit, exF_skip, runL, wantL, stepL, evL, evC, LEnv.at, putL, loadFine, loadL, cellsAt, Trk.putNew, Trk.up, Trk.touch, Trk.gives, Trk.calm, Trk.hit, opdsOf, Trk.fresh, LEnv.keep, LEnv.ofFrom, List.map_cons, List.map_nil, nbeq, nble, nblt, ofAV, ofAVs, lenL, bin_add, bin_sub, bin_mul, bin_eql, bin_neq, bin_lss, bin_leq, bin_gtr, bin_geq, natL_nat, natL_zero, natL_one, natL_two, Nat.zero_mul, List.any_cons, List.any_nil, Bool.or_false, Bool.false_or, Bool.true_or, Bool.or_true, Bool.and_true, Bool.true_and, Bool.and_false, Bool.false_and, Bool.not_true, Bool.not_false, Nat.reduceBEq, Nat.reduceEqDiff, decide_true, decide_false, cond_true, cond_false, List.filter_nil, List.filter_cons, Nat.reduceAdd, Nat.reduceLeDiff, reduceCtorEq, List.length_nil, List.length_cons, Nat.mul_one, if_true, if_false, Bool.false_eq_true, eq_self, and_true, true_and, retL, resultsL, resAllL, resOfL, List.append_nil, List.nil_append, List.cons_append, true_or, or_true, false_or, or_false, false_and, and_false, not_true_eq_false, not_false_eq_true, ne_eq, unL, trim_nil, views_pures, LV.pures, LV.pure, freeze, Nat.reduceDiv, Int.reduceEq, Int.reduceLT, Int.reduceLE, Int.natCast_zero, LV.cells, allocL, List.getElem?_cons_zero, List.getElem?_cons_succ, storeL, spliceL, List.take_zero, List.take_succ_cons, List.drop_zero, List.drop_succ_cons, List.drop_nil, List.take_nil, Nat.le_refl, Nat.reduceMul, List.set_cons_zero, List.set_cons_succ, LV.scalar, List.all_cons, List.all_nil, Nat.lt_add_one, Nat.zero_lt_one, Nat.reduceLT, Nat.lt_irrefl, fillL, List.length_append, foldIntL, kind_beq, pures_int, solids_int, plains_int, unders_int, scalars_int, show ((k : Int) < (own.length : Int)) by omega, h2, h3, hm, int_at _ _ _ h2, int_at _ _ _ h3, h]
    · simp only [share_Better_1.B0, beqT, beqF, exF_seq, exF_region, exF_block, exF_cond, exF_ret, exF_exit, exF_skip, runL, wantL, stepL, evL, evC, LEnv.at, putL, loadFine, loadL, cellsAt, Trk.putNew, Trk.up, Trk.touch, Trk.gives, Trk.calm, Trk.hit, opdsOf, Trk.fresh, LEnv.keep, LEnv.ofFrom, List.map_cons, List.map_nil, nbeq, nble, nblt, ofAV, ofAVs, lenL, bin_add, bin_sub, bin_mul, bin_eql, bin_neq, bin_lss, bin_leq, bin_gtr, bin_geq, natL_nat, natL_zero, natL_one, natL_two, Nat.zero_mul, List.any_cons, List.any_nil, Bool.or_false, Bool.false_or, Bool.true_or, Bool.or_true, Bool.and_true, Bool.true_and, Bool.and_false, Bool.false_and, Bool.not_true, Bool.not_false, Nat.reduceBEq, Nat.reduceEqDiff, decide_true, decide_false, cond_true, cond_false, List.filter_nil, List.filter_cons, Nat.reduceAdd, Nat.reduceLeDiff, reduceCtorEq, List.length_nil, List.length_cons, Nat.mul_one, if_true, if_false, Bool.false_eq_true, eq_self, and_true, true_and, retL, resultsL, resAllL, resOfL, List.append_nil, List.nil_append, List.cons_append, true_or, or_true, false_or, or_false, false_and, and_false, not_true_eq_false, not_false_eq_true, ne_eq, unL, trim_nil, views_pures, LV.pures, LV.pure, freeze, Nat.reduceDiv, Int.reduceEq, Int.reduceLT, Int.reduceLE, Int.natCast_zero, LV.cells, allocL, List.getElem?_cons_zero, List.getElem?_cons_succ, storeL, spliceL, List.take_zero, List.take_succ_cons, List.drop_zero, List.drop_succ_cons, List.drop_nil, List.take_nil, Nat.le_refl, Nat.reduceMul, List.set_cons_zero, List.set_cons_succ, LV.scalar, List.all_cons, List.all_nil, Nat.lt_add_one, Nat.zero_lt_one, Nat.reduceLT, Nat.lt_irrefl, fillL, List.length_append, foldIntL, kind_beq, pures_int, solids_int, plains_int, unders_int, scalars_int, show ((k : Int) < (own.length : Int)) by omega, h2, h3, hm, int_at _ _ _ h2, int_at _ _ _ h3, h, wrap_succ (show k + 1 < 9223372036854775808 by omega), ih (k + 1) _ (by omega)]
def visB (V : List (List Int)) (old : List Int) (s : Option (List Int)) (o : List Int) : Option (List Int) × Bool := if betB V old o then (some o, false) else (s, true)
def BM (V W : LV) (old : List Int) (L : Nat) (s : Option (List Int)) (o : List Int) : LMem :=
  [⟨[V, W], true⟩, ⟨[IL false false 1 old], true⟩, ⟨[.bool s.isSome], true⟩, ⟨[match s with | none => LNIL | some _ => CV 10 L], true⟩, ⟨[.func n_share_Better_1 [] [.ptr 1 0 1, .ptr 2 0 1, .ptr 3 0 1]], true⟩, ⟨[V, SLo 6 L], true⟩, ⟨o.map (LV.int .i64), fown L s⟩, ⟨[V, SLo 6 L], true⟩, ⟨[PUT 4], true⟩] ++ (match s with | none => [] | some q => HI V L 6 q)
theorem better1_c (nl ex nl' ex' : Bool) (sz sz' : Nat) (o0 : List Int) {rs : List Row} {L : Nat} (D : VOk rs L) (old : List Int) (hold : old.length = rs.length) (o : List Int) (ho : o.length = L) :
    clF LP n_share_Better_1 [.agg [VL nl ex sz rs, SLo 6 L], .ptr 1 0 1, .ptr 2 0 1, .ptr 3 0 1] (BM (VL nl ex sz rs) (IL nl' ex' sz' o0) old L none o) = some (.W, .bool (visB (vals rs) old none o).2, BM (VL nl ex sz rs) (IL nl' ex' sz' o0) old L (visB (vals rs) old none o).1 o) := by
  have h6 := D.le6
  have h4 := D.le4
  have hf := ownP_m nl ex sz (dok_len D ho) (m := BM (VL nl ex sz rs) (IL nl' ex' sz' o0) old L none o ++ [⟨[VL nl ex sz rs, SLo 6 L], true⟩]) (i := 6) (b := true) rfl ho
  have hcl := clone_m (g := 0) (m := BM (VL nl ex sz rs) (IL nl' ex' sz' o0) old L none o ++ [⟨[VL nl ex sz rs, SLo 6 L], true⟩]) (i := 6) (b := true) (o := o) rfl ho (by omega)
  have hol := ownL_length (vals rs) o 0 rs.length
  have hlp := bet_loop (ownL (vals rs) o 0 rs.length) old (by rw [hol, hold]) (by omega) (BM (VL nl ex sz rs) (IL nl' ex' sz' o0) old L none o ++ [⟨[VL nl ex sz rs, SLo 6 L], true⟩]) rfl (ownL (vals rs) o 0 rs.length).length 0 0 (by omega)
  rw [List.drop_zero, List.drop_zero] at hlp
  unfold visB betB
  rw [vals_length]
  generalize ownL (vals rs) o 0 rs.length = own at *
  rw [clF_eq, lp_share_Better_1]
  simp only [BM, fown, Option.isSome_none, List.cons_append, List.nil_append, List.append_nil, List.length_cons, List.length_nil, Nat.reduceAdd, Int.natCast_zero] at hf hcl hlp
  simp only [callMode, share_Better_1]
  cases hb : betS own old 0 with
  | none =>
    rw [hb] at hlp
    simp only [share_Better_1.B, beqT, beqF, exF_seq, exF_region, exF_block, exF_cond, exF_ret, exF_exit, exF_skip, runL, wantL, stepL, evL, evC, LEnv.at, putL, loadFine, loadL, cellsAt, Trk.putNew, Trk.up, Trk.touch, Trk.gives, Trk.calm, Trk.hit, opdsOf, Trk.fresh, LEnv.keep, LEnv.ofFrom, List.map_cons, List.map_nil, nbeq, nble, nblt, ofAV, ofAVs, lenL, bin_add, bin_sub, bin_mul, bin_eql, bin_neq, bin_lss, bin_leq, bin_gtr, bin_geq, natL_nat, natL_zero, natL_one, natL_two, Nat.zero_mul, List.any_cons, List.any_nil, Bool.or_false, Bool.false_or, Bool.true_or, Bool.or_true, Bool.and_true, Bool.true_and, Bool.and_false, Bool.false_and, Bool.not_true, Bool.not_false, Nat.reduceBEq, Nat.reduceEqDiff, decide_true, decide_false, cond_true, cond_false, List.filter_nil, List.filter_cons, Nat.reduceAdd, Nat.reduceLeDiff, reduceCtorEq, List.length_nil, List.length_cons, Nat.mul_one, if_true, if_false, Bool.false_eq_true, eq_self, and_true, true_and, retL, resultsL, resAllL, resOfL, List.append_nil, List.nil_append, List.cons_append, true_or, or_true, false_or, or_false, false_and, and_false, not_true_eq_false, not_false_eq_true, ne_eq, unL, trim_nil, views_pures, LV.pures, LV.pure, freeze, Nat.reduceDiv, Int.reduceEq, Int.reduceLT, Int.reduceLE, Int.natCast_zero, LV.cells, allocL, List.getElem?_cons_zero, List.getElem?_cons_succ, storeL, spliceL, List.take_zero, List.take_succ_cons, List.drop_zero, List.drop_succ_cons, List.drop_nil, List.take_nil, Nat.le_refl, Nat.reduceMul, List.set_cons_zero, List.set_cons_succ, LV.scalar, List.all_cons, List.all_nil, Nat.lt_add_one, Nat.zero_lt_one, Nat.reduceLT, Nat.lt_irrefl, fillL, List.length_append, foldIntL, kind_beq, pures_int, solids_int, plains_int, unders_int, scalars_int, BM, fown, Option.isSome_none, hf, hlp]
    simp [trim, belowM, LV.unders, LV.under, unders_int, nblt, fown]
  | some d =>
    rw [hb] at hlp
    by_cases hd : 0 < d
    · by_cases h : L = 0
      · subst h
        have hone : o = [] := List.length_eq_zero_iff.1 ho
        subst hone
        simp only [List.map_nil] at hf hlp
        simp only [List.map_nil, CV, if_true, freeze, freeze1, List.getElem?_cons_succ, List.getElem?_cons_zero, List.set_cons_succ, List.set_cons_zero] at hcl
        simp only [share_Better_1.B, beqT, beqF, exF_seq, exF_region, exF_block, exF_cond, exF_ret, exF_exit, exF_skip, runL, wantL, stepL, evL, evC, LEnv.at, putL, loadFine, loadL, cellsAt, Trk.putNew, Trk.up, Trk.touch, Trk.gives, Trk.calm, Trk.hit, opdsOf, Trk.fresh, LEnv.keep, LEnv.ofFrom, List.map_cons, List.map_nil, nbeq, nble, nblt, ofAV, ofAVs, lenL, bin_add, bin_sub, bin_mul, bin_eql, bin_neq, bin_lss, bin_leq, bin_gtr, bin_geq, natL_nat, natL_zero, natL_one, natL_two, Nat.zero_mul, List.any_cons, List.any_nil, Bool.or_false, Bool.false_or, Bool.true_or, Bool.or_true, Bool.and_true, Bool.true_and, Bool.and_false, Bool.false_and, Bool.not_true, Bool.not_false, Nat.reduceBEq, Nat.reduceEqDiff, decide_true, decide_false, cond_true, cond_false, List.filter_nil, List.filter_cons, Nat.reduceAdd, Nat.reduceLeDiff, reduceCtorEq, List.length_nil, List.length_cons, Nat.mul_one, if_true, if_false, Bool.false_eq_true, eq_self, and_true, true_and, retL, resultsL, resAllL, resOfL, List.append_nil, List.nil_append, true_or, or_true, false_or, or_false, false_and, and_false, not_true_eq_false, not_false_eq_true, ne_eq, unL, trim_nil, LV.pures, LV.pure, Nat.reduceDiv, Int.reduceEq, Int.reduceLT, Int.reduceLE, Int.natCast_zero, allocL, List.getElem?_cons_zero, List.getElem?_cons_succ, storeL, spliceL, List.take_zero, List.take_succ_cons, List.drop_zero, List.drop_succ_cons, List.drop_nil, List.take_nil, Nat.le_refl, Nat.reduceMul, List.set_cons_zero, List.set_cons_succ, LV.scalar, List.all_cons, List.all_nil, Nat.lt_add_one, Nat.zero_lt_one, Nat.reduceLT, Nat.lt_irrefl, fillL, foldIntL, kind_beq, pures_int, solids_int, plains_int, unders_int, scalars_int, LV.cells, freeze, List.cons_append, BM, fown, Option.isSome_none, Option.isSome_some, hf, hlp, hd, hcl]
        simp [trim, belowM, LV.unders, LV.under, unders_int, nblt, HI, CV]
      · simp only [CV, if_neg h, List.cons_append, List.nil_append] at hcl
        simp only [share_Better_1.B, beqT, beqF, exF_seq, exF_region, exF_block, exF_cond, exF_ret, exF_exit, exF_skip, runL, wantL, stepL, evL, evC, LEnv.at, putL, loadFine, loadL, cellsAt, Trk.putNew, Trk.up, Trk.touch, Trk.gives, Trk.calm, Trk.hit, opdsOf, Trk.fresh, LEnv.keep, LEnv.ofFrom, List.map_cons, List.map_nil, nbeq, nble, nblt, ofAV, ofAVs, lenL, bin_add, bin_sub, bin_mul, bin_eql, bin_neq, bin_lss, bin_leq, bin_gtr, bin_geq, natL_nat, natL_zero, natL_one, natL_two, Nat.zero_mul, List.any_cons, List.any_nil, Bool.or_false, Bool.false_or, Bool.true_or, Bool.or_true, Bool.and_true, Bool.true_and, Bool.and_false, Bool.false_and, Bool.not_true, Bool.not_false, Nat.reduceBEq, Nat.reduceEqDiff, decide_true, decide_false, cond_true, cond_false, List.filter_nil, List.filter_cons, Nat.reduceAdd, Nat.reduceLeDiff, reduceCtorEq, List.length_nil, List.length_cons, Nat.mul_one, if_true, if_false, Bool.false_eq_true, eq_self, and_true, true_and, retL, resultsL, resAllL, resOfL, List.append_nil, List.nil_append, true_or, or_true, false_or, or_false, false_and, and_false, not_true_eq_false, not_false_eq_true, ne_eq, unL, trim_nil, LV.pures, LV.pure, Nat.reduceDiv, Int.reduceEq, Int.reduceLT, Int.reduceLE, Int.natCast_zero, allocL, List.getElem?_cons_zero, List.getElem?_cons_succ, storeL, spliceL, List.take_zero, List.take_succ_cons, List.drop_zero, List.drop_succ_cons, List.drop_nil, List.take_nil, Nat.le_refl, Nat.reduceMul, List.set_cons_zero, List.set_cons_succ, LV.scalar, List.all_cons, List.all_nil, Nat.lt_add_one, Nat.zero_lt_one, Nat.reduceLT, Nat.lt_irrefl, fillL, foldIntL, kind_beq, pures_int, solids_int, plains_int, unders_int, scalars_int, LV.cells, freeze, List.cons_append, BM, fown, Option.isSome_none, Option.isSome_some, hf, hlp, hd, hcl]
        simp [trim, belowM, LV.unders, LV.under, unders_int, nblt, HI, CV, h]
    · simp only [share_Better_1.B, beqT, beqF, exF_seq, exF_region, exF_block, exF_cond, exF_ret, exF_exit, exF_skip, runL, wantL, stepL, evL, evC, LEnv.at, putL, loadFine, loadL, cellsAt, Trk.putNew, Trk.up, Trk.touch, Trk.gives, Trk.calm, Trk.hit, opdsOf, Trk.fresh, LEnv.keep, LEnv.ofFrom, List.map_cons, List.map_nil, nbeq, nble, nblt, ofAV, ofAVs, lenL, bin_add, bin_sub, bin_mul, bin_eql, bin_neq, bin_lss, bin_leq, bin_gtr, bin_geq, natL_nat, natL_zero, natL_one, natL_two, Nat.zero_mul, List.any_cons, List.any_nil, Bool.or_false, Bool.false_or, Bool.true_or, Bool.or_true, Bool.and_true, Bool.true_and, Bool.and_false, Bool.false_and, Bool.not_true, Bool.not_false, Nat.reduceBEq, Nat.reduceEqDiff, decide_true, decide_false, cond_true, cond_false, List.filter_nil, List.filter_cons, Nat.reduceAdd, Nat.reduceLeDiff, reduceCtorEq, List.length_nil, List.length_cons, Nat.mul_one, if_true, if_false, Bool.false_eq_true, eq_self, and_true, true_and, retL, resultsL, resAllL, resOfL, List.append_nil, List.nil_append, List.cons_append, true_or, or_true, false_or, or_false, false_and, and_false, not_true_eq_false, not_false_eq_true, ne_eq, unL, trim_nil, views_pures, LV.pures, LV.pure, freeze, Nat.reduceDiv, Int.reduceEq, Int.reduceLT, Int.reduceLE, Int.natCast_zero, LV.cells, allocL, List.getElem?_cons_zero, List.getElem?_cons_succ, storeL, spliceL, List.take_zero, List.take_succ_cons, List.drop_zero, List.drop_succ_cons, List.drop_nil, List.take_nil, Nat.le_refl, Nat.reduceMul, List.set_cons_zero, List.set_cons_succ, LV.scalar, List.all_cons, List.all_nil, Nat.lt_add_one, Nat.zero_lt_one, Nat.reduceLT, Nat.lt_irrefl, fillL, List.length_append, foldIntL, kind_beq, pures_int, solids_int, plains_int, unders_int, scalars_int, BM, fown, Option.isSome_none, hf, hlp, hd]
      simp [trim, belowM, LV.unders, LV.under, unders_int, nblt, fown]
def XB (nl ex nl' ex' : Bool) (sz sz' : Nat) (o0 : List Int) {rs : List Row} {L : Nat} (D : VOk rs L) (old : List Int) (hold : old.length = rs.length) : Vis (Option (List Int)) (VL nl ex sz rs) rs.length L where
  mem := BM (VL nl ex sz rs) (IL nl' ex' sz' o0) old L
  vis := visB (vals rs) old
  good := fun s => s = none
  f := n_share_Better_1
  first := []
  cap := [.ptr 1 0 1, .ptr 2 0 1, .ptr 3 0 1]
  d := 7
  b := 6
  iv := 4
  ip := 8
  own := fown L
  hown := fun s h => by cases s <;> simp [fown]; omega
  hd := fun _ _ _ => rfl
  hb := fun _ _ _ => rfl
  hv := fun _ _ _ => rfl
  hp := fun _ _ _ => rfl
  hset := fun s _ _ _ _ h => by
    have : fown L s = true := by cases s <;> simp [fown]; omega
    simp [BM, this]
  htrim := fun s l o o' c hs h1 h2 => by
    subst hs
    generalize (runV (visB (vals rs) old) none l).1 = r
    cases r with
    | none => exact trim_le _ _ _ (by simp [BM])
    | some q =>
      by_cases h : L = 0
      · exact trim_le _ _ _ (by simp [BM, HI, h])
      · simp [BM, HI, h, trim, belowM, LV.unders, LV.under, nblt, CV]
  hvis := fun s o hs ho => by subst hs; exact better1_c nl ex nl' ex' sz sz' o0 D old hold o ho
  hgood := fun s o hs _ h => by
    subst hs
    by_cases c : betB (vals rs) old o = true
    · simp [visB, c] at h
    · simp [visB, c]
theorem bet_run (V : List (List Int)) (old : List Int) : ∀ (l : List (List Int)), (runV (visB V old) none l).1 = l.find? (betB V old)
  | [] => rfl
  | x :: xs => by
    rw [runV, List.find?_cons]
    cases c : betB V old x
    · have := bet_run V old xs
      simpa [visB, c] using this
    · simp [visB, c]
theorem each_better (nl ex nl' ex' : Bool) (sz sz' : Nat) (o0 : List Int) {rs : List Row} {L : Nat} (D : VOk rs L) (old : List Int) (hold : old.length = rs.length) :
    ∃ m', clF LP n_share_each [VL nl ex sz rs, .func n_share_Better_1 [] [.ptr 1 0 1, .ptr 2 0 1, .ptr 3 0 1]] [⟨[VL nl ex sz rs, IL nl' ex' sz' o0], true⟩, ⟨[IL false false 1 old], true⟩, ⟨[.bool false], true⟩, ⟨[LNIL], true⟩] = some (.W, .tup [], m') ∧
      (((allD rs.length L).find? (betB (vals rs) old)) = none → m'[2]? = some ⟨[.bool false], true⟩) ∧
      (∀ q, ((allD rs.length L).find? (betB (vals rs) old)) = some q → m'[2]? = some ⟨[.bool true], true⟩ ∧ m'[3]? = some ⟨[CV 10 L], true⟩ ∧ (L ≠ 0 → m'[10]? = some ⟨q.map (LV.int .i64), true⟩)) := by
  have h0 : (nones L).length = L := by simp [nones]
  obtain ⟨o', q1, q2, q3⟩ := put_c nl ex sz D.le4 D.le6 (XB nl ex nl' ex' sz sz' o0 D old hold) L 0 none (nones L) (by omega) h0 rfl
  have hm : ((allR rs.length L).map fun q => (nones L).take 0 ++ q) = allR rs.length L := by simp
  rw [hm, allR_D] at q3
  have hl := D.len 0 D.pos
  have he := fun m => empty_c nl ex sz rs D.pos (by rw [hl]; exact D.le6) m
  rw [hl] at he
  simp only [XB, Int.natCast_zero] at q3
  rw [bet_run] at q3
  generalize (allD rs.length L).find? (betB (vals rs) old) = r at *
  have q3' : ∀ x, clF LP n_share_each_1 [.int .i64 0, .ptr 7 0 2, .ptr 4 0 1, .ptr 8 0 1] [⟨[VL nl ex sz rs, IL nl' ex' sz' o0], true⟩, ⟨[IL false false 1 old], true⟩, ⟨[.bool false], true⟩, ⟨[LNIL], true⟩, ⟨[.func n_share_Better_1 [] [.ptr 1 0 1, .ptr 2 0 1, .ptr 3 0 1]], true⟩, ⟨[VL nl ex sz rs, SLo 6 L], true⟩, ⟨(nones L).map (LV.int .i64), true⟩, ⟨[VL nl ex sz rs, SLo 6 L], true⟩, ⟨[PUT 4], true⟩] = x → clF LP n_share_each_1 [.int .i64 0, .ptr 7 0 2, .ptr 4 0 1, .ptr 8 0 1] (BM (VL nl ex sz rs) (IL nl' ex' sz' o0) old L none (nones L)) = x := fun x h => h
  have q4 := q3' _ rfl
  rw [q3] at q4
  refine ⟨trim 4 [.tup []] (BM (VL nl ex sz rs) (IL nl' ex' sz' o0) old L r o'), ?_, ?_, ?_⟩
  · rw [clF_eq, lp_share_each]
    simp only [callMode, share_each]
    simp only [share_each.B, beqT, beqF, exF_seq, exF_region, exF_block, exF_cond, exF_ret, exF_exit, exF_skip, runL, wantL, stepL, evL, evC, LEnv.at, putL, loadFine, loadL, cellsAt, Trk.putNew, Trk.up, Trk.touch, Trk.gives, Trk.calm, Trk.hit, opdsOf, Trk.fresh, LEnv.keep, LEnv.ofFrom, List.map_cons, List.map_nil, nbeq, nble, nblt, ofAV, ofAVs, lenL, bin_add, bin_sub, bin_mul, bin_eql, bin_neq, bin_lss, bin_leq, bin_gtr, bin_geq, natL_nat, natL_zero, natL_one, natL_two, Nat.zero_mul, List.any_cons, List.any_nil, Bool.or_false, Bool.false_or, Bool.true_or, Bool.or_true, Bool.and_true, Bool.true_and, Bool.and_false, Bool.false_and, Bool.not_true, Bool.not_false, Nat.reduceBEq, Nat.reduceEqDiff, decide_true, decide_false, cond_true, cond_false, List.filter_nil, List.filter_cons, Nat.reduceAdd, Nat.reduceLeDiff, reduceCtorEq, List.length_nil, List.length_cons, Nat.mul_one, if_true, if_false, Bool.false_eq_true, eq_self, and_true, true_and, retL, resultsL, resAllL, resOfL, List.append_nil, List.nil_append, List.cons_append, true_or, or_true, false_or, or_false, false_and, and_false, not_true_eq_false, not_false_eq_true, ne_eq, unL, trim_nil, views_pures, LV.pures, LV.pure, freeze, Nat.reduceDiv, Int.reduceEq, Int.reduceLT, Int.reduceLE, Int.natCast_zero, LV.cells, allocL, List.getElem?_cons_zero, List.getElem?_cons_succ, storeL, spliceL, List.take_zero, List.take_succ_cons, List.drop_zero, List.drop_succ_cons, List.drop_nil, List.take_nil, Nat.le_refl, Nat.reduceMul, List.set_cons_zero, List.set_cons_succ, LV.scalar, List.all_cons, List.all_nil, Nat.lt_add_one, Nat.zero_lt_one, Nat.reduceLT, Nat.lt_irrefl, fillL, List.length_append, foldIntL, kind_beq, pures_int, solids_int, plains_int, unders_int, scalars_int, he, ← q4]
  · rintro rfl
    simp [BM, trim, belowM, LV.unders, LV.under, fown]
  · rintro q rfl
    by_cases h : L = 0
    · subst h
      simp [BM, trim, belowM, LV.unders, LV.under, CV]
    · simp [BM, trim, belowM, LV.unders, LV.under, CV, h, nblt, HI]
end Go.Am.Share


