import Derived.Test.YtcckhkcchpfdoaaShareC26
/-
  What functions of chapter 07 compute, 27: the reference's fair divisions.
-/
set_option linter.unusedVariables false
set_option linter.unusedSimpArgs false
set_option maxRecDepth 10000
namespace Go.Am.Share
end Go.Am.Share

/-
  What functions of chapter 07 compute, 28: fair divisions are counted and found by the reference; all divisions in order.
-/
set_option linter.unusedVariables false
set_option linter.unusedSimpArgs false
set_option maxRecDepth 10000
namespace Go.Am.Share
theorem allS_map (N : Nat) (x : Int) (P : List (List Int)) : allS N (P.map fun q => x :: q) = (allS N P).map fun q => x :: q := by
  unfold allS
  rw [List.flatMap_map, List.map_flatMap]
  simp only [List.map_map]
  rfl
theorem allS_flat (N : Nat) (f : Nat → List (List Int)) : ∀ (l : List Nat), allS N (l.flatMap f) = l.flatMap fun j => allS N (f j)
  | [] => rfl
  | a :: r => by
    have := allS_flat N f r
    unfold allS at this ⊢
    rw [List.flatMap_cons, List.flatMap_cons, List.flatMap_append, this]
theorem allR_S (N : Nat) : ∀ (n : Nat), allR N (n + 1) = allS N (allR N n)
  | 0 => by
    simp only [allR, allS, List.flatMap_cons, List.flatMap_nil, List.append_nil, List.map_cons, List.map_nil, List.nil_append]
    induction List.range' 0 N with
    | nil => rfl
    | cons a r ih => rw [List.flatMap_cons, ih]; rfl
  | n + 1 => by
    rw [allR, allR_S N n]
    simp only [← allS_map]
    rw [← allS_flat]
    congr 1
    rw [← allR_S N n, allR]
theorem allR_D (N : Nat) : ∀ (n : Nat), allR N n = allD N n
  | 0 => rfl
  | n + 1 => by rw [allR_S, allD, allR_D N n]
end Go.Am.Share

/-
  What functions of chapter 07 compute, 29: the program's first fair division.
-/
set_option linter.unusedVariables false
set_option linter.unusedSimpArgs false
set_option maxRecDepth 10000
namespace Go.Am.Share
/-- A copy of owners, as a new list. -/
def CV (i L : Nat) : LV := if L = 0 then .lst false true 0 0 [] else .sl i 0 L L 1 1 L
theorem clone_run (ex : Bool) (sz : Nat) (l : List Int) (hl : l.length < 1000000) (hsz : l = [] ∨ sz = 1) : retL slices_Clone_int_int.results (exF LP slices_Clone_int_int.B (LEnv.ofFrom 0 [IL false ex sz l]) []) = some (CV 0 l.length, if l = [] then [] else [⟨l.map (LV.int .i64), true⟩]) := by
  by_cases h : l = []
  · subst h
    simp only [slices_Clone_int_int, slices_Clone_int_int.B, beqT, beqF, exF_seq, exF_region, exF_block, exF_cond, exF_ret, exF_exit, exF_skip, runL, wantL, stepL, evL, evC, LEnv.at, putL, loadFine, loadL, cellsAt, Trk.putNew, Trk.up, Trk.touch, Trk.gives, Trk.calm, Trk.hit, opdsOf, Trk.fresh, LEnv.keep, LEnv.ofFrom, List.map_cons, List.map_nil, nbeq, nble, nblt, ofAV, ofAVs, lenL, bin_add, bin_sub, bin_mul, bin_eql, bin_neq, bin_lss, bin_leq, bin_gtr, bin_geq, natL_nat, natL_zero, natL_one, natL_two, Nat.zero_mul, List.any_cons, List.any_nil, Bool.or_false, Bool.false_or, Bool.true_or, Bool.or_true, Bool.and_true, Bool.true_and, Bool.and_false, Bool.false_and, Bool.not_true, Bool.not_false, Nat.reduceBEq, Nat.reduceEqDiff, decide_true, decide_false, cond_true, cond_false, List.filter_nil, List.filter_cons, Nat.reduceAdd, Nat.reduceLeDiff, reduceCtorEq, List.length_nil, List.length_cons, Nat.mul_one, if_true, if_false, Bool.false_eq_true, eq_self, and_true, true_and, retL, resultsL, resAllL, resOfL, List.append_nil, List.nil_append, List.cons_append, true_or, or_true, false_or, or_false, false_and, and_false, not_true_eq_false, not_false_eq_true, ne_eq, unL, trim_nil, views_pures, LV.pures, LV.pure, freeze, Nat.reduceDiv, Int.reduceEq, Int.reduceLT, Int.reduceLE, Int.natCast_zero, LV.cells, allocL, List.getElem?_cons_zero, List.getElem?_cons_succ, storeL, spliceL, List.take_zero, List.take_succ_cons, List.drop_zero, List.drop_succ_cons, List.drop_nil, List.take_nil, Nat.le_refl, Nat.reduceMul, List.set_cons_zero, List.set_cons_succ, LV.scalar, List.all_cons, List.all_nil, Nat.lt_add_one, Nat.zero_lt_one, Nat.reduceLT, Nat.lt_irrefl, fillL, List.length_append, foldIntL, kind_beq, pures_int, solids_int, plains_int, unders_int, scalars_int, nilOf, eqsL, Bool.xor_false, Bool.false_xor, Bool.xor_true, appendL, contents, views, viewL]
    rfl
  · obtain rfl : sz = 1 := by rcases hsz with c | c; exact absurd c h; exact c
    have h0 : ¬ l.length = 0 := by simpa using h
    have hr1 : l.length * 8 ≤ roomMost := by unfold roomMost; omega
    have hr2 : l.length ≤ roomMost := by unfold roomMost; omega
    simp only [slices_Clone_int_int, slices_Clone_int_int.B, beqT, beqF, exF_seq, exF_region, exF_block, exF_cond, exF_ret, exF_exit, exF_skip, runL, wantL, stepL, evL, evC, LEnv.at, putL, loadFine, loadL, cellsAt, Trk.putNew, Trk.up, Trk.touch, Trk.gives, Trk.calm, Trk.hit, opdsOf, Trk.fresh, LEnv.keep, LEnv.ofFrom, List.map_cons, List.map_nil, nbeq, nble, nblt, ofAV, ofAVs, lenL, bin_add, bin_sub, bin_mul, bin_eql, bin_neq, bin_lss, bin_leq, bin_gtr, bin_geq, natL_nat, natL_zero, natL_one, natL_two, Nat.zero_mul, List.any_cons, List.any_nil, Bool.or_false, Bool.false_or, Bool.true_or, Bool.or_true, Bool.and_true, Bool.true_and, Bool.and_false, Bool.false_and, Bool.not_true, Bool.not_false, Nat.reduceBEq, Nat.reduceEqDiff, decide_true, decide_false, cond_true, cond_false, List.filter_nil, List.filter_cons, Nat.reduceAdd, Nat.reduceLeDiff, reduceCtorEq, List.length_nil, List.length_cons, Nat.mul_one, if_true, if_false, Bool.false_eq_true, eq_self, and_true, true_and, retL, resultsL, resAllL, resOfL, List.append_nil, List.nil_append, List.cons_append, true_or, or_true, false_or, or_false, false_and, and_false, not_true_eq_false, not_false_eq_true, ne_eq, unL, trim_nil, views_pures, LV.pures, LV.pure, freeze, Nat.reduceDiv, Int.reduceEq, Int.reduceLT, Int.reduceLE, Int.natCast_zero, LV.cells, allocL, List.getElem?_cons_zero, List.getElem?_cons_succ, storeL, spliceL, List.take_zero, List.take_succ_cons, List.drop_zero, List.drop_succ_cons, List.drop_nil, List.take_nil, Nat.le_refl, Nat.reduceMul, List.set_cons_zero, List.set_cons_succ, LV.scalar, List.all_cons, List.all_nil, Nat.lt_add_one, Nat.zero_lt_one, Nat.reduceLT, Nat.lt_irrefl, fillL, List.length_append, foldIntL, kind_beq, pures_int, solids_int, plains_int, unders_int, scalars_int, nilOf, eqsL, Bool.xor_false, Bool.false_xor, Bool.xor_true, appendL, contents, views, viewL, h0, hr1, hr2, newSl, Nat.zero_add, h, CV]
theorem clone_m {m : LMem} {i L g : Nat} {o : List Int} {b : Bool} (hb : m[i]? = some ⟨o.map (LV.int .i64), b⟩) (hL : o.length = L) (hl : o.length < 1000000) : clF LP n_slices_Clone_int_int [.sl i 0 L L g 1 L] m = some (.O, CV m.length L, if L = 0 then freeze [i] m else m ++ [⟨o.map (LV.int .i64), true⟩]) := by
  subst hL
  have h1 := fun k => view_sl k m i 0 o.length o.length g o b hb rfl (by omega) o.length (by omega)
  have hv : views m [.sl i 0 o.length o.length g 1 o.length] = some ([IL false (Nat.beq g 0 && Nat.beq o.length o.length) 1 o], [i]) := by
    have := views_one 32 m _ _ _ h1 (by simp [LV.pures, LV.pure])
    rw [List.drop_zero, List.take_length] at this
    exact this
  have hr := clone_run (Nat.beq g 0 && Nat.beq o.length o.length) 1 o hl (.inr rfl)
  have hm : slices_Clone_int_int.mode = .O := rfl
  have hb2 : slices_Clone_int_int.body = slices_Clone_int_int.B := rfl
  rw [clF_eq, lp_slices_Clone_int_int]
  simp only [callMode, hm, hv, hb2, hr]
  by_cases h : o = []
  · subst h
    simp [CV, newOnly, LV.solid, LV.shift]
  · have h0 : ¬ o.length = 0 := by simpa using h
    simp [CV, h, h0, newOnly, LV.solid, LV.shift, solids_int, shifts_int]
def HI (V : LV) (L b : Nat) (q : List Int) : LMem := if L = 0 then [] else [⟨[V, SLo b L], true⟩, ⟨q.map (LV.int .i64), true⟩]
def fown (L : Nat) (s : Option (List Int)) : Bool := match s with | none => true | some _ => decide (L ≠ 0)
end Go.Am.Share

/-
  What functions of chapter 07 compute, 30: the program's first fair division, handed back; own worths; products.
-/
set_option linter.unusedVariables false
set_option linter.unusedSimpArgs false
set_option maxRecDepth 10000
namespace Go.Am.Share
theorem view_slq (m : LMem) (i L g : Nat) (o : List Int) (b : Bool) (e : Int) (h : m[i]? = some ⟨o.map (LV.int .i64), b⟩) (hL : o.length = L) : view 40 m (.tup [.sl i 0 L L g 1 L, .int .i64 e]) = some (.tup [IL false (Nat.beq g 0) 1 o, .int .i64 e], [i]) := by
  have h1 := fun k => view_sl k m i 0 L L g o b h hL (by omega) L (by omega)
  have := views_two 31 m _ (.int .i64 e) _ _ h1 rfl (by simp [LV.pures, LV.pure])
  rw [view.eq_def]
  simp only [this]
  subst hL
  simp [nbeq]
/-! ### Own worths -/
def ownL (V : List (List Int)) (o : List Int) (k n : Nat) : List Int := (List.range' k n).map fun i : Nat => ws (i : Int) (V.getD i []) o 0
theorem ownL_succ (V : List (List Int)) (o : List Int) (k n : Nat) : ownL V o k (n + 1) = ws (k : Int) (V.getD k []) o 0 :: ownL V o (k + 1) n := by unfold ownL; rw [List.range'_succ]; rfl
theorem own_loop (nl ex nl' ex' : Bool) (sz sz' : Nat) {rs : List Row} {o : List Int} (D : DOk rs o) (n : Nat) : ∀ (k : Nat) (l : List Int), k + n = rs.length → l.length + n ≤ 10000 →
    exF LP share_division_own.L0 [(1, .ptr 0 0 2), (3, GV 1 l), (9, .int .i64 (rs.length : Int)), (10, .int .i64 (k : Int))] ([⟨[VL nl ex sz rs, IL nl' ex' sz' o], true⟩] ++ GM l) =
      some (.exit 0, [(3, GV 1 (l ++ ownL (vals rs) o k n))], [⟨[VL nl ex sz rs, IL nl' ex' sz' o], true⟩] ++ GM (l ++ ownL (vals rs) o k n)) := by
  have h4 := D.le4
  induction n with
  | zero =>
    intro k l hk hl
    rw [share_division_own.L0_eq]
    simp only [share_division_own.B0, beqT, beqF, exF_seq, exF_region, exF_block, exF_cond, exF_ret, exF_exit, exF_skip, runL, wantL, stepL, evL, evC, LEnv.at, putL, loadFine, loadL, cellsAt, Trk.putNew, Trk.up, Trk.touch, Trk.gives, Trk.calm, Trk.hit, opdsOf, Trk.fresh, LEnv.keep, LEnv.ofFrom, List.map_cons, List.map_nil, nbeq, nble, nblt, ofAV, ofAVs, lenL, bin_add, bin_sub, bin_mul, bin_eql, bin_neq, bin_lss, bin_leq, bin_gtr, bin_geq, natL_nat, natL_zero, natL_one, natL_two, Nat.zero_mul, List.any_cons, List.any_nil, Bool.or_false, Bool.false_or, Bool.true_or, Bool.or_true, Bool.and_true, Bool.true_and, Bool.and_false, Bool.false_and, Bool.not_true, Bool.not_false, Nat.reduceBEq, Nat.reduceEqDiff, decide_true, decide_false, cond_true, cond_false, List.filter_nil, List.filter_cons, Nat.reduceAdd, Nat.reduceLeDiff, reduceCtorEq, List.length_nil, List.length_cons, Nat.mul_one, if_true, if_false, Bool.false_eq_true, eq_self, and_true, true_and, retL, resultsL, resAllL, resOfL, List.append_nil, List.nil_append, List.cons_append, true_or, or_true, false_or, or_false, false_and, and_false, not_true_eq_false, not_false_eq_true, ne_eq, unL, trim_nil, views_pures, LV.pures, LV.pure, freeze, Nat.reduceDiv, Int.reduceEq, Int.reduceLT, Int.reduceLE, Int.natCast_zero, LV.cells, allocL, List.getElem?_cons_zero, List.getElem?_cons_succ, storeL, spliceL, List.take_zero, List.take_succ_cons, List.drop_zero, List.drop_succ_cons, List.drop_nil, List.take_nil, Nat.le_refl, Nat.reduceMul, List.set_cons_zero, List.set_cons_succ, LV.scalar, List.all_cons, List.all_nil, Nat.lt_add_one, Nat.zero_lt_one, Nat.reduceLT, Nat.lt_irrefl, fillL, List.length_append, foldIntL, kind_beq, pures_int, solids_int, plains_int, unders_int, scalars_int, show ¬ ((k : Int) < (rs.length : Int)) by omega, ownL, List.range'_zero]
  | succ n ih =>
    intro k l hk hl
    have h2 : k < rs.length := by omega
    have he := share_d nl ex nl' ex' sz sz' D h2 k
    have ih := ih (k + 1) (l ++ [ws (k : Int) ((vals rs).getD k []) o 0]) (by omega) (by simp; omega)
    have a1 := append_grow [⟨[VL nl ex sz rs, IL nl' ex' sz' o], true⟩] l (ws (k : Int) ((vals rs).getD k []) o 0) true (by omega)
    have e1 : l ++ [ws (k : Int) ((vals rs).getD k []) o 0] ++ ownL (vals rs) o (k + 1) n = l ++ ownL (vals rs) o k (n + 1) := by rw [ownL_succ]; simp
    rw [e1] at ih
    simp only [List.cons_append, List.nil_append, List.length_cons, List.length_nil, Nat.zero_add] at a1 ih
    rw [share_division_own.L0_eq]
    simp only [share_division_own.B0, beqT, beqF, exF_seq, exF_region, exF_block, exF_cond, exF_ret, exF_exit, exF_skip, runL, wantL, stepL, evL, evC, LEnv.at, putL, loadFine, loadL, cellsAt, Trk.putNew, Trk.up, Trk.touch, Trk.gives, Trk.calm, Trk.hit, opdsOf, Trk.fresh, LEnv.keep, LEnv.ofFrom, List.map_cons, List.map_nil, nbeq, nble, nblt, ofAV, ofAVs, lenL, bin_add, bin_sub, bin_mul, bin_eql, bin_neq, bin_lss, bin_leq, bin_gtr, bin_geq, natL_nat, natL_zero, natL_one, natL_two, Nat.zero_mul, List.any_cons, List.any_nil, Bool.or_false, Bool.false_or, Bool.true_or, Bool.or_true, Bool.and_true, Bool.true_and, Bool.and_false, Bool.false_and, Bool.not_true, Bool.not_false, Nat.reduceBEq, Nat.reduceEqDiff, decide_true, decide_false, cond_true, cond_false, List.filter_nil, List.filter_cons, Nat.reduceAdd, Nat.reduceLeDiff, reduceCtorEq, List.length_nil, List.length_cons, Nat.mul_one, if_true, if_false, Bool.false_eq_true, eq_self, and_true, true_and, retL, resultsL, resAllL, resOfL, List.append_nil, List.nil_append, List.cons_append, true_or, or_true, false_or, or_false, false_and, and_false, not_true_eq_false, not_false_eq_true, ne_eq, unL, trim_nil, views_pures, LV.pures, LV.pure, freeze, Nat.reduceDiv, Int.reduceEq, Int.reduceLT, Int.reduceLE, Int.natCast_zero, LV.cells, allocL, List.getElem?_cons_zero, List.getElem?_cons_succ, storeL, spliceL, List.take_zero, List.take_succ_cons, List.drop_zero, List.drop_succ_cons, List.drop_nil, List.take_nil, Nat.le_refl, Nat.reduceMul, List.set_cons_zero, List.set_cons_succ, LV.scalar, List.all_cons, List.all_nil, Nat.lt_add_one, Nat.zero_lt_one, Nat.reduceLT, Nat.lt_irrefl, fillL, foldIntL, kind_beq, pures_int, solids_int, plains_int, unders_int, scalars_int, show ((k : Int) < (rs.length : Int)) by omega, he, a1, wrap_succ (show k + 1 < 9223372036854775808 by omega), ih]
theorem own_run (nl ex nl' ex' : Bool) (sz sz' : Nat) {rs : List Row} {o : List Int} (D : DOk rs o) : retL share_division_own.results (exF LP share_division_own.B (LEnv.ofFrom 0 [.agg [VL nl ex sz rs, IL nl' ex' sz' o]]) []) = some (GV 1 (ownL (vals rs) o 0 rs.length), [⟨[VL nl ex sz rs, IL nl' ex' sz' o], true⟩] ++ GM (ownL (vals rs) o 0 rs.length)) := by
  have h4 := D.le4
  have h := own_loop nl ex nl' ex' sz sz' D rs.length 0 [] (by omega) (by simp; omega)
  rw [List.nil_append] at h
  generalize ownL (vals rs) o 0 rs.length = l at *
  simp only [List.cons_append, List.nil_append, Int.natCast_zero] at h ⊢
  have h : exF LP share_division_own.L0 [(1, .ptr 0 0 2), (3, LNIL), (9, .int .i64 (rs.length : Int)), (10, .int .i64 0)] [⟨[VL nl ex sz rs, IL nl' ex' sz' o], true⟩] = some (.exit 0, [(3, GV 1 l)], ⟨[VL nl ex sz rs, IL nl' ex' sz' o], true⟩ :: GM l) := h
  simp only [share_division_own, share_division_own.B, beqT, beqF, exF_seq, exF_region, exF_block, exF_cond, exF_ret, exF_exit, exF_skip, runL, wantL, stepL, evL, evC, LEnv.at, putL, loadFine, loadL, cellsAt, Trk.putNew, Trk.up, Trk.touch, Trk.gives, Trk.calm, Trk.hit, opdsOf, Trk.fresh, LEnv.keep, LEnv.ofFrom, List.map_cons, List.map_nil, nbeq, nble, nblt, ofAV, ofAVs, lenL, bin_add, bin_sub, bin_mul, bin_eql, bin_neq, bin_lss, bin_leq, bin_gtr, bin_geq, natL_nat, natL_zero, natL_one, natL_two, Nat.zero_mul, List.any_cons, List.any_nil, Bool.or_false, Bool.false_or, Bool.true_or, Bool.or_true, Bool.and_true, Bool.true_and, Bool.and_false, Bool.false_and, Bool.not_true, Bool.not_false, Nat.reduceBEq, Nat.reduceEqDiff, decide_true, decide_false, cond_true, cond_false, List.filter_nil, List.filter_cons, Nat.reduceAdd, Nat.reduceLeDiff, reduceCtorEq, List.length_nil, List.length_cons, Nat.mul_one, if_true, if_false, Bool.false_eq_true, eq_self, and_true, true_and, retL, resultsL, resAllL, resOfL, List.append_nil, List.nil_append, List.cons_append, true_or, or_true, false_or, or_false, false_and, and_false, not_true_eq_false, not_false_eq_true, ne_eq, unL, trim_nil, views_pures, LV.pures, LV.pure, freeze, Nat.reduceDiv, Int.reduceEq, Int.reduceLT, Int.reduceLE, Int.natCast_zero, LV.cells, allocL, List.getElem?_cons_zero, List.getElem?_cons_succ, storeL, spliceL, List.take_zero, List.take_succ_cons, List.drop_zero, List.drop_succ_cons, List.drop_nil, List.take_nil, Nat.le_refl, Nat.reduceMul, List.set_cons_zero, List.set_cons_succ, LV.scalar, List.all_cons, List.all_nil, Nat.lt_add_one, Nat.zero_lt_one, Nat.reduceLT, Nat.lt_irrefl, fillL, foldIntL, kind_beq, pures_int, solids_int, plains_int, unders_int, scalars_int, h]
theorem ownL_ne {rs : List Row} {o : List Int} (D : DOk rs o) : ownL (vals rs) o 0 rs.length ≠ [] := by
  have := D.pos
  intro c
  have := congrArg List.length c
  simp only [ownL, List.length_map, List.length_range', List.length_nil] at this
  omega
theorem ownP_m (nl ex : Bool) (sz : Nat) {rs : List Row} {o : List Int} (D : DOk rs o) {m : LMem} {i L : Nat} {b : Bool} (hb : m[i]? = some ⟨o.map (LV.int .i64), b⟩) (hL : o.length = L) : clF LP n_share_division_own [.agg [VL nl ex sz rs, .sl i 0 L L 0 1 L]] m = some (.P, IL false false 1 (ownL (vals rs) o 0 rs.length), m) := by
  have hv := views_d m (VL nl ex sz rs) rfl i L 0 o b hb hL
  have hr := own_run nl ex false true sz 1 D
  have hne := ownL_ne D
  have hv2 := view_grow 37 [⟨[VL nl ex sz rs, IL false true 1 o], true⟩] (ownL (vals rs) o 0 rs.length)
  generalize ownL (vals rs) o 0 rs.length = l at *
  have e0 : Nat.beq 0 0 = true := rfl
  have hd : decide (l = []) = false := by simpa using hne
  rw [e0] at hv
  rw [if_neg hne, RL, hd] at hv2
  have hm : share_division_own.mode = .P := rfl
  have hb2 : share_division_own.body = share_division_own.B := rfl
  rw [clF_eq, lp_share_division_own]
  simp only [callMode, hm, hb2, hv, hr, List.length_cons, List.length_nil, Nat.zero_add] at hv2 ⊢
  simp only [hv2]
  simp [newIds, GV, GM, hne, LV.solid, solids_int]
end Go.Am.Share


