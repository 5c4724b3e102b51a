/-
  What functions of chapter 13 compute, 15: the program's search for a half.
-/
import Derived.Test.YtgogknjedpmcgaaWashC14
set_option linter.unusedVariables false
set_option linter.unusedSimpArgs false
set_option maxRecDepth 10000
namespace Go.Am.Wash
open Go.Am.G

theorem trim_same {k : Nat} {m : LMem} (h : m.length = k) (vs : List LV) : trim k vs m = m := by
  subst h
  unfold trim
  rw [List.take_length]
  cases (LV.unders m.length vs && belowM m.length m) <;> rfl
theorem follow_c (nl ex : Bool) {t : List Nat} (D : Td t) (B0 : LBlk) (Y : LMem) {h : List Nat} {p q : Nat} {c : Bool} {h' : List Nat} (hl : h.length = t.length) (hp : p < t.length) (hq : q < t.length) (e : folF t 20 h p q = some (c, h')) :
    clF LP n_wash_follow [IL nl ex 1 (ci t), SLH t.length, .int .i64 (p : Int), .int .i64 (q : Int)] (B0 :: ⟨ints (hi h), true⟩ :: Y) = some (.W, .bool c, B0 :: ⟨ints (hi h'), true⟩ :: Y) ∧ h'.length = t.length := by
  obtain ⟨g, g2⟩ := fol_loop nl ex D B0 Y 20 h p q c h' hl hp hq e
  refine ⟨?_, g2⟩
  have hr : retL wash_follow.results (exF LP wash_follow.body (LEnv.ofFrom 0 [IL nl ex 1 (ci t), SLH t.length, .int .i64 (p : Int), .int .i64 (q : Int)]) (B0 :: ⟨ints (hi h), true⟩ :: Y)) = some (.bool c, B0 :: ⟨ints (hi h'), true⟩ :: Y) := by
    cases c
    · simp only [Bool.false_eq_true, if_false] at g
      simp only [wash_follow, wash_follow.B, beqT, beqF, exF_seq, exF_region, exF_block, exF_cond, exF_ret, exF_exit, exF_skip, runL, wantL, stepL, evL, LEnv.at, putL, loadFine, loadL, cellsAt, Trk.putNew, Trk.up, Trk.touch, Trk.gives, Trk.calm, Trk.hit, opdsOf, Trk.fresh, LEnv.keep, LEnv.ofFrom, List.map_cons, List.map_nil, nbeq, nble, nblt, ofAV, ofAVs, lenL, bin_add, bin_sub, bin_mul, bin_eql, bin_neq, bin_lss, bin_leq, bin_gtr, bin_geq, natL_nat, natL_zero, natL_one, natL_two, Nat.zero_mul, List.any_cons, List.any_nil, Bool.or_false, Bool.false_or, Bool.true_or, Bool.or_true, Bool.and_true, Bool.true_and, Bool.and_false, Bool.false_and, Bool.not_true, Bool.not_false, Nat.reduceBEq, Nat.reduceEqDiff, decide_true, decide_false, cond_true, cond_false, List.filter_nil, List.filter_cons, Nat.reduceAdd, Nat.reduceLeDiff, reduceCtorEq, List.length_nil, List.length_cons, Nat.mul_one, if_true, if_false, Bool.false_eq_true, eq_self, and_true, true_and, retL, resultsL, resAllL, resOfL, List.append_nil, List.nil_append, List.cons_append, true_or, or_true, false_or, or_false, false_and, and_false, not_true_eq_false, not_false_eq_true, ne_eq, unL, trim_nil, views_pures, LV.pures, LV.pure, freeze, Nat.reduceDiv, Int.reduceEq, Int.reduceLT, Int.reduceLE, Int.natCast_zero, LV.cells, allocL, List.getElem?_cons_zero, List.getElem?_cons_succ, storeL, spliceL, List.take_zero, List.take_succ_cons, List.drop_zero, List.drop_succ_cons, List.drop_nil, List.take_nil, Nat.le_refl, Nat.reduceMul, List.set_cons_zero, List.set_cons_succ, LV.scalar, List.all_cons, List.all_nil, Nat.lt_add_one, Nat.zero_lt_one, Nat.reduceLT, Nat.lt_irrefl, fillL, List.length_append, foldIntL, kind_beq, pures_int, solids_int, plains_int, unders_int, scalars_int, g]
    · simp only [if_true] at g
      simp only [wash_follow, wash_follow.B, beqT, beqF, exF_seq, exF_region, exF_block, exF_cond, exF_ret, exF_exit, exF_skip, runL, wantL, stepL, evL, LEnv.at, putL, loadFine, loadL, cellsAt, Trk.putNew, Trk.up, Trk.touch, Trk.gives, Trk.calm, Trk.hit, opdsOf, Trk.fresh, LEnv.keep, LEnv.ofFrom, List.map_cons, List.map_nil, nbeq, nble, nblt, ofAV, ofAVs, lenL, bin_add, bin_sub, bin_mul, bin_eql, bin_neq, bin_lss, bin_leq, bin_gtr, bin_geq, natL_nat, natL_zero, natL_one, natL_two, Nat.zero_mul, List.any_cons, List.any_nil, Bool.or_false, Bool.false_or, Bool.true_or, Bool.or_true, Bool.and_true, Bool.true_and, Bool.and_false, Bool.false_and, Bool.not_true, Bool.not_false, Nat.reduceBEq, Nat.reduceEqDiff, decide_true, decide_false, cond_true, cond_false, List.filter_nil, List.filter_cons, Nat.reduceAdd, Nat.reduceLeDiff, reduceCtorEq, List.length_nil, List.length_cons, Nat.mul_one, if_true, if_false, Bool.false_eq_true, eq_self, and_true, true_and, retL, resultsL, resAllL, resOfL, List.append_nil, List.nil_append, List.cons_append, true_or, or_true, false_or, or_false, false_and, and_false, not_true_eq_false, not_false_eq_true, ne_eq, unL, trim_nil, views_pures, LV.pures, LV.pure, freeze, Nat.reduceDiv, Int.reduceEq, Int.reduceLT, Int.reduceLE, Int.natCast_zero, LV.cells, allocL, List.getElem?_cons_zero, List.getElem?_cons_succ, storeL, spliceL, List.take_zero, List.take_succ_cons, List.drop_zero, List.drop_succ_cons, List.drop_nil, List.take_nil, Nat.le_refl, Nat.reduceMul, List.set_cons_zero, List.set_cons_succ, LV.scalar, List.all_cons, List.all_nil, Nat.lt_add_one, Nat.zero_lt_one, Nat.reduceLT, Nat.lt_irrefl, fillL, List.length_append, foldIntL, kind_beq, pures_int, solids_int, plains_int, unders_int, scalars_int, g]
  rw [call_W lp_wash_follow rfl hr, trim_same (by simp)]

/-- Blocks that hold numbers alone. -/
def XOk (X : LMem) : Prop := ∀ k, belowM k X = true
theorem XOk.nil : XOk [] := fun k => rfl
theorem XOk.add {X : LMem} (h : XOk X) (l : List Int) (b : Bool) : XOk (X ++ [⟨ints l, b⟩]) := fun k => by
  have := h k
  unfold belowM at this ⊢
  rw [List.all_append, this]
  simp [unders_int]
abbrev PUTF : LV := .func n_wash_Half_1 [] [.ptr 2 0 1, .ptr 3 0 1, .ptr 0 0 1]
abbrev HM (V : LV) (N : Nat) (h : List Nat) (X : LMem) : LMem := ⟨[V], true⟩ :: ⟨ints (hi h), true⟩ :: ⟨[SLH N], true⟩ :: ⟨[PUTF], true⟩ :: X
theorem HM_below (nl ex : Bool) (l : List Int) (N : Nat) (h : List Nat) (X : LMem) (hX : XOk X) : belowM (4 + X.length) (HM (IL nl ex 1 l) N h X) = true := by
  have := hX (4 + X.length)
  unfold belowM at this ⊢
  have k1 : ∀ n, n < 4 → n < 4 + X.length := fun n hn => by omega
  have hw : LV.unders (4 + X.length) (ints (hi h)) = true := unders_int _ _ _
  have hw2 : LV.unders (4 + X.length) (l.map (LV.int .i64)) = true := unders_int _ _ _
  simp only [HM, List.all_cons, this, hw, LV.unders, LV.under, hw2, nblt, SLH]
  simp [k1]
theorem HM_trim (nl ex : Bool) (l : List Int) (N : Nat) (h : List Nat) (X Z : LMem) (hX : XOk X) (c : Bool) : trim (4 + X.length) [.bool c] (HM (IL nl ex 1 l) N h (X ++ Z)) = HM (IL nl ex 1 l) N h X := by
  have e : HM (IL nl ex 1 l) N h (X ++ Z) = HM (IL nl ex 1 l) N h X ++ Z := by simp [HM]
  have hl : (HM (IL nl ex 1 l) N h X).length = 4 + X.length := by simp [HM]; omega
  unfold trim
  rw [e, ← hl, List.take_left, hl, HM_below nl ex l N h X hX]
  rfl
theorem clone_run (ex : Bool) (l : List Int) (hl : l.length < 1000000) (hne : l ≠ []) : retL slices_Clone_int_int.results (exF LP slices_Clone_int_int.B (LEnv.ofFrom 0 [IL false ex 1 l]) []) = some (.sl 0 0 l.length l.length 1 1 l.length, [⟨ints l, true⟩]) := by
  have h0 : ¬ l.length = 0 := by simpa using hne
  have hr1 : l.length * 8 ≤ roomMost := by unfold roomMost; omega
  have hr2 : l.length ≤ roomMost := by unfold roomMost; omega
  simp only [slices_Clone_int_int, slices_Clone_int_int.B, beqT, beqF, exF_seq, exF_region, exF_block, exF_cond, exF_ret, exF_exit, exF_skip, runL, wantL, stepL, evL, LEnv.at, putL, loadFine, loadL, cellsAt, Trk.putNew, Trk.up, Trk.touch, Trk.gives, Trk.calm, Trk.hit, opdsOf, Trk.fresh, LEnv.keep, LEnv.ofFrom, List.map_cons, List.map_nil, nbeq, nble, nblt, ofAV, ofAVs, lenL, bin_add, bin_sub, bin_mul, bin_eql, bin_neq, bin_lss, bin_leq, bin_gtr, bin_geq, natL_nat, natL_zero, natL_one, natL_two, Nat.zero_mul, List.any_cons, List.any_nil, Bool.or_false, Bool.false_or, Bool.true_or, Bool.or_true, Bool.and_true, Bool.true_and, Bool.and_false, Bool.false_and, Bool.not_true, Bool.not_false, Nat.reduceBEq, Nat.reduceEqDiff, decide_true, decide_false, cond_true, cond_false, List.filter_nil, List.filter_cons, Nat.reduceAdd, Nat.reduceLeDiff, reduceCtorEq, List.length_nil, List.length_cons, Nat.mul_one, if_true, if_false, Bool.false_eq_true, eq_self, and_true, true_and, retL, resultsL, resAllL, resOfL, List.append_nil, List.nil_append, List.cons_append, true_or, or_true, false_or, or_false, false_and, and_false, not_true_eq_false, not_false_eq_true, ne_eq, unL, trim_nil, views_pures, LV.pures, LV.pure, freeze, Nat.reduceDiv, Int.reduceEq, Int.reduceLT, Int.reduceLE, Int.natCast_zero, LV.cells, allocL, List.getElem?_cons_zero, List.getElem?_cons_succ, storeL, spliceL, List.take_zero, List.take_succ_cons, List.drop_zero, List.drop_succ_cons, List.drop_nil, List.take_nil, Nat.le_refl, Nat.reduceMul, List.set_cons_zero, List.set_cons_succ, LV.scalar, List.all_cons, List.all_nil, Nat.lt_add_one, Nat.zero_lt_one, Nat.reduceLT, Nat.lt_irrefl, fillL, List.length_append, foldIntL, kind_beq, pures_int, solids_int, plains_int, unders_int, scalars_int, nilOf, eqsL, Bool.xor_false, Bool.false_xor, Bool.xor_true, appendL, contents, views, viewL, h0, hr1, hr2, newSl, Nat.zero_add, hne, ints]
theorem clone_h (V : LV) {N : Nat} (h : List Nat) (X : LMem) (hN : h.length = N) (h0 : 0 < N) (h7 : N ≤ 7) : clF LP n_slices_Clone_int_int [SLH N] (HM V N h X) = some (.O, .sl (4 + X.length) 0 N N 1 1 N, HM V N h (X ++ [⟨ints (hi h), true⟩])) := by
  have hv : views (HM V N h X) [SLH N] = some ([IL false true 1 (hi h)], [1]) := by
    refine views_one 32 _ _ _ _ (fun k => ?_) (by simp [LV.pures, LV.pure, SLH])
    have := view_sl k (HM V N h X) 1 0 N N 0 (hi h) true rfl (by rw [hi_len]; exact hN) (by omega) N (Nat.le_refl _)
    rw [List.drop_zero, List.take_of_length_le (by rw [hi_len]; omega)] at this
    rw [SLH, this]
    simp [nbeq]
  have hne : hi h ≠ [] := by intro c; have e := congrArg List.length c; rw [hi_len] at e; change h.length = 0 at e; omega
  have hl : (HM V N h X).length = 4 + X.length := by simp [HM]; omega
  have hr := clone_run true (hi h) (by rw [hi_len]; omega) hne
  rw [hi_len, hN] at hr
  have hm : slices_Clone_int_int.mode = .O := rfl
  have hb2 : slices_Clone_int_int.body = slices_Clone_int_int.B := rfl
  rw [clF_eq, lp_slices_Clone_int_int]
  simp only [callMode, hm, hv, hb2, hr]
  have hs : LV.solids (ints (hi h)) = true := solids_int _ _
  have hs2 : ∀ n, LV.shifts n (ints (hi h)) = ints (hi h) := fun n => shifts_int _ _ _
  simp only [newOnly, LV.solid, List.all_cons, List.all_nil, hs, Bool.and_true, Bool.true_and, cond_true, LV.shift, hl, List.map_cons, List.map_nil, hs2, Nat.add_zero, Nat.zero_add]
  simp [HM, hs, hs2]

/-! ### put -/
def PutOk (nl ex : Bool) (t : List Nat) (d : Nat) : Prop := ∀ (h : List Nat) (X : LMem) (c : Bool) (h' : List Nat), h.length = t.length → XOk X → putF t t.length d h = some (c, h') →
  clF LP n_wash_Half_1 [.int .i64 ((t.length - d : Nat) : Int), .ptr 2 0 1, .ptr 3 0 1, .ptr 0 0 1] (HM (IL nl ex 1 (ci t)) t.length h X) = some (.W, .bool c, HM (IL nl ex 1 (ci t)) t.length h' X) ∧ h'.length = t.length
theorem put_loop (nl ex : Bool) {t : List Nat} (D : Td t) (d : Nat) (hd : d + 1 ≤ t.length) (G : PutOk nl ex t d) (h : List Nat) (hl : h.length = t.length) (n : Nat) : ∀ (q : Nat) (X : LMem) (c : Bool) (h' : List Nat), q + n = t.length → XOk X → putC t (putF t t.length d) (t.length - (d + 1)) h n q = some (c, h') →
    ∃ Z, XOk (X ++ Z) ∧ exF LP wash_Half_1.L0 [(0, .int .i64 ((t.length - (d + 1) : Nat) : Int)), (1, .ptr 2 0 1), (2, .ptr 3 0 1), (3, .ptr 0 0 1), (22, .int .i64 (t.length : Int)), (23, .int .i64 (q : Int))] (HM (IL nl ex 1 (ci t)) t.length h X) =
      (if c then some (.ret, [(5, .bool true)], HM (IL nl ex 1 (ci t)) t.length h' (X ++ Z)) else some (.exit 0, [], HM (IL nl ex 1 (ci t)) t.length h' (X ++ Z))) ∧ h'.length = t.length := by
  have h7 := D.h7
  induction n with
  | zero =>
    intro q X c h' hq hX e
    obtain ⟨rfl, rfl⟩ := Prod.mk.inj (Option.some.inj e)
    refine ⟨[], by simpa using hX, ?_, hl⟩
    rw [wash_Half_1.L0_eq, List.append_nil]
    simp only [wash_Half_1.B0, beqT, beqF, exF_seq, exF_region, exF_block, exF_cond, exF_ret, exF_exit, exF_skip, runL, wantL, stepL, evL, LEnv.at, putL, loadFine, loadL, cellsAt, Trk.putNew, Trk.up, Trk.touch, Trk.gives, Trk.calm, Trk.hit, opdsOf, Trk.fresh, LEnv.keep, LEnv.ofFrom, List.map_cons, List.map_nil, nbeq, nble, nblt, ofAV, ofAVs, lenL, bin_add, bin_sub, bin_mul, bin_eql, bin_neq, bin_lss, bin_leq, bin_gtr, bin_geq, natL_nat, natL_zero, natL_one, natL_two, Nat.zero_mul, List.any_cons, List.any_nil, Bool.or_false, Bool.false_or, Bool.true_or, Bool.or_true, Bool.and_true, Bool.true_and, Bool.and_false, Bool.false_and, Bool.not_true, Bool.not_false, Nat.reduceBEq, Nat.reduceEqDiff, decide_true, decide_false, cond_true, cond_false, List.filter_nil, List.filter_cons, Nat.reduceAdd, Nat.reduceLeDiff, reduceCtorEq, List.length_nil, List.length_cons, Nat.mul_one, if_true, if_false, Bool.false_eq_true, eq_self, and_true, true_and, retL, resultsL, resAllL, resOfL, List.append_nil, List.nil_append, List.cons_append, true_or, or_true, false_or, or_false, false_and, and_false, not_true_eq_false, not_false_eq_true, ne_eq, unL, trim_nil, views_pures, LV.pures, LV.pure, freeze, Nat.reduceDiv, Int.reduceEq, Int.reduceLT, Int.reduceLE, Int.natCast_zero, LV.cells, allocL, List.getElem?_cons_zero, List.getElem?_cons_succ, storeL, spliceL, List.take_zero, List.take_succ_cons, List.drop_zero, List.drop_succ_cons, List.drop_nil, List.take_nil, Nat.le_refl, Nat.reduceMul, List.set_cons_zero, List.set_cons_succ, LV.scalar, List.all_cons, List.all_nil, Nat.lt_add_one, Nat.zero_lt_one, Nat.reduceLT, Nat.lt_irrefl, fillL, List.length_append, foldIntL, kind_beq, pures_int, solids_int, plains_int, unders_int, scalars_int, show ¬ ((q : Int) < (t.length : Int)) by omega]
  | succ n ih =>
    intro q X c h' hq hX e
    have hcl := clone_h (IL nl ex 1 (ci t)) h X hl (by omega) h7
    have hX2 := hX.add (hi h) true
    have wp : IntKind.i64.wrap (((t.length - (d + 1) : Nat) : Int) + 1) = ((t.length - d : Nat) : Int) := by rw [wrap_in (by omega)]; omega
    rw [putC] at e
    cases ef : folF t 20 h (t.length - (d + 1)) q with
    | none => rw [ef] at e; cases e
    | some r =>
      obtain ⟨c1, h1⟩ := r
      rw [ef] at e
      obtain ⟨f1, fl⟩ := follow_c nl ex D ⟨[IL nl ex 1 (ci t)], true⟩ (⟨[SLH t.length], true⟩ :: ⟨[PUTF], true⟩ :: (X ++ [⟨ints (hi h), true⟩])) hl (by omega) (by omega) ef
      have hcp : ∀ h2 : List Nat, h2.length = t.length → copyL (HM (IL nl ex 1 (ci t)) t.length h2 (X ++ [⟨ints (hi h), true⟩])) 1 (SLH t.length) (.sl (4 + X.length) 0 t.length t.length 1 1 t.length) = some (.int .i64 (t.length : Int), HM (IL nl ex 1 (ci t)) t.length h (X ++ [⟨ints (hi h), true⟩])) := by
        intro h2 hl2
        have hg : (HM (IL nl ex 1 (ci t)) t.length h2 (X ++ [⟨ints (hi h), true⟩]))[4 + X.length]? = some ⟨ints (hi h), true⟩ := by
          rw [show 4 + X.length = X.length + 4 by omega]
          simp [HM]
        have hg1 : (HM (IL nl ex 1 (ci t)) t.length h2 (X ++ [⟨ints (hi h), true⟩]))[1]? = some ⟨ints (hi h2), true⟩ := rfl
        have l1 : (ints (hi h)).length = t.length := by simp [hl]
        have l2 : (ints (hi h2)).length = t.length := by simp [hl2]
        have hsc : (ints (hi h)).all LV.scalar = true := scalars_int _ _
        have hset : (HM (IL nl ex 1 (ci t)) t.length h2 (X ++ [⟨ints (hi h), true⟩])).set 1 ⟨ints (hi h), true⟩ = HM (IL nl ex 1 (ci t)) t.length h (X ++ [⟨ints (hi h), true⟩]) := rfl
        have hsp : spliceL (ints (hi h2)) 0 (ints (hi h)) = ints (hi h) := by
          simp [spliceL, l1, l2]
          omega
        simp only [copyL, contents, hg, hg1, SLH, l1, l2, nbeq, nble, hsc, decide_true, Bool.and_true, Bool.true_and, Nat.zero_add, Nat.mul_one, Nat.le_refl, cond_true, List.drop_zero, List.take_of_length_le (Nat.le_of_eq l1), Nat.min_self, hsp, hset]
      cases c1
      · obtain ⟨Z, z1, z2, z3⟩ := ih (q + 1) (X ++ [⟨ints (hi h), true⟩]) c h' (by omega) hX2 e
        refine ⟨⟨ints (hi h), true⟩ :: Z, by simpa using z1, ?_, z3⟩
        have hcp := hcp h1 fl
        rw [List.append_assoc, List.singleton_append] at z2
        rw [wash_Half_1.L0_eq, ← z2]
        simp only [wash_Half_1.B0, beqT, beqF, exF_seq, exF_region, exF_block, exF_cond, exF_ret, exF_exit, exF_skip, runL, wantL, stepL, evL, LEnv.at, putL, loadFine, loadL, cellsAt, Trk.putNew, Trk.up, Trk.touch, Trk.gives, Trk.calm, Trk.hit, opdsOf, Trk.fresh, LEnv.keep, LEnv.ofFrom, List.map_cons, List.map_nil, nbeq, nble, nblt, ofAV, ofAVs, lenL, bin_add, bin_sub, bin_mul, bin_eql, bin_neq, bin_lss, bin_leq, bin_gtr, bin_geq, natL_nat, natL_zero, natL_one, natL_two, Nat.zero_mul, List.any_cons, List.any_nil, Bool.or_false, Bool.false_or, Bool.true_or, Bool.or_true, Bool.and_true, Bool.true_and, Bool.and_false, Bool.false_and, Bool.not_true, Bool.not_false, Nat.reduceBEq, Nat.reduceEqDiff, decide_true, decide_false, cond_true, cond_false, List.filter_nil, List.filter_cons, Nat.reduceAdd, Nat.reduceLeDiff, reduceCtorEq, List.length_nil, List.length_cons, Nat.mul_one, if_true, if_false, Bool.false_eq_true, eq_self, and_true, true_and, retL, resultsL, resAllL, resOfL, List.append_nil, List.nil_append, List.cons_append, true_or, or_true, false_or, or_false, false_and, and_false, not_true_eq_false, not_false_eq_true, ne_eq, unL, trim_nil, views_pures, LV.pures, LV.pure, freeze, Nat.reduceDiv, Int.reduceEq, Int.reduceLT, Int.reduceLE, Int.natCast_zero, LV.cells, allocL, List.getElem?_cons_zero, List.getElem?_cons_succ, storeL, spliceL, List.take_zero, List.take_succ_cons, List.drop_zero, List.drop_succ_cons, List.drop_nil, List.take_nil, Nat.le_refl, Nat.reduceMul, List.set_cons_zero, List.set_cons_succ, LV.scalar, List.all_cons, List.all_nil, Nat.lt_add_one, Nat.zero_lt_one, Nat.reduceLT, Nat.lt_irrefl, fillL, List.length_append, foldIntL, kind_beq, pures_int, solids_int, plains_int, unders_int, scalars_int, show ((q : Int) < (t.length : Int)) by omega, hcl, f1, hcp, wrap_succ (show q + 1 < 9223372036854775808 by omega)]
      · cases eg : putF t t.length d h1 with
        | none => simp only [eg] at e; cases e
        | some r =>
          obtain ⟨c2, h2⟩ := r
          simp only [eg] at e
          obtain ⟨g1, g2⟩ := G h1 (X ++ [⟨ints (hi h), true⟩]) c2 h2 fl hX2 eg
          cases c2
          · obtain ⟨Z, z1, z2, z3⟩ := ih (q + 1) (X ++ [⟨ints (hi h), true⟩]) c h' (by omega) hX2 e
            refine ⟨⟨ints (hi h), true⟩ :: Z, by simpa using z1, ?_, z3⟩
            have hcp := hcp h2 g2
            rw [List.append_assoc, List.singleton_append] at z2
            rw [wash_Half_1.L0_eq, ← z2]
            simp only [wash_Half_1.B0, beqT, beqF, exF_seq, exF_region, exF_block, exF_cond, exF_ret, exF_exit, exF_skip, runL, wantL, stepL, evL, LEnv.at, putL, loadFine, loadL, cellsAt, Trk.putNew, Trk.up, Trk.touch, Trk.gives, Trk.calm, Trk.hit, opdsOf, Trk.fresh, LEnv.keep, LEnv.ofFrom, List.map_cons, List.map_nil, nbeq, nble, nblt, ofAV, ofAVs, lenL, bin_add, bin_sub, bin_mul, bin_eql, bin_neq, bin_lss, bin_leq, bin_gtr, bin_geq, natL_nat, natL_zero, natL_one, natL_two, Nat.zero_mul, List.any_cons, List.any_nil, Bool.or_false, Bool.false_or, Bool.true_or, Bool.or_true, Bool.and_true, Bool.true_and, Bool.and_false, Bool.false_and, Bool.not_true, Bool.not_false, Nat.reduceBEq, Nat.reduceEqDiff, decide_true, decide_false, cond_true, cond_false, List.filter_nil, List.filter_cons, Nat.reduceAdd, Nat.reduceLeDiff, reduceCtorEq, List.length_nil, List.length_cons, Nat.mul_one, if_true, if_false, Bool.false_eq_true, eq_self, and_true, true_and, retL, resultsL, resAllL, resOfL, List.append_nil, List.nil_append, List.cons_append, true_or, or_true, false_or, or_false, false_and, and_false, not_true_eq_false, not_false_eq_true, ne_eq, unL, trim_nil, views_pures, LV.pures, LV.pure, freeze, Nat.reduceDiv, Int.reduceEq, Int.reduceLT, Int.reduceLE, Int.natCast_zero, LV.cells, allocL, List.getElem?_cons_zero, List.getElem?_cons_succ, storeL, spliceL, List.take_zero, List.take_succ_cons, List.drop_zero, List.drop_succ_cons, List.drop_nil, List.take_nil, Nat.le_refl, Nat.reduceMul, List.set_cons_zero, List.set_cons_succ, LV.scalar, List.all_cons, List.all_nil, Nat.lt_add_one, Nat.zero_lt_one, Nat.reduceLT, Nat.lt_irrefl, fillL, List.length_append, foldIntL, kind_beq, pures_int, solids_int, plains_int, unders_int, scalars_int, show ((q : Int) < (t.length : Int)) by omega, hcl, f1, wp, g1, hcp, wrap_succ (show q + 1 < 9223372036854775808 by omega)]
          · obtain ⟨rfl, rfl⟩ := Prod.mk.inj (Option.some.inj e)
            refine ⟨[⟨ints (hi h), true⟩], hX2, ?_, g2⟩
            rw [wash_Half_1.L0_eq]
            simp only [wash_Half_1.B0, beqT, beqF, exF_seq, exF_region, exF_block, exF_cond, exF_ret, exF_exit, exF_skip, runL, wantL, stepL, evL, LEnv.at, putL, loadFine, loadL, cellsAt, Trk.putNew, Trk.up, Trk.touch, Trk.gives, Trk.calm, Trk.hit, opdsOf, Trk.fresh, LEnv.keep, LEnv.ofFrom, List.map_cons, List.map_nil, nbeq, nble, nblt, ofAV, ofAVs, lenL, bin_add, bin_sub, bin_mul, bin_eql, bin_neq, bin_lss, bin_leq, bin_gtr, bin_geq, natL_nat, natL_zero, natL_one, natL_two, Nat.zero_mul, List.any_cons, List.any_nil, Bool.or_false, Bool.false_or, Bool.true_or, Bool.or_true, Bool.and_true, Bool.true_and, Bool.and_false, Bool.false_and, Bool.not_true, Bool.not_false, Nat.reduceBEq, Nat.reduceEqDiff, decide_true, decide_false, cond_true, cond_false, List.filter_nil, List.filter_cons, Nat.reduceAdd, Nat.reduceLeDiff, reduceCtorEq, List.length_nil, List.length_cons, Nat.mul_one, if_true, if_false, Bool.false_eq_true, eq_self, and_true, true_and, retL, resultsL, resAllL, resOfL, List.append_nil, List.nil_append, List.cons_append, true_or, or_true, false_or, or_false, false_and, and_false, not_true_eq_false, not_false_eq_true, ne_eq, unL, trim_nil, views_pures, LV.pures, LV.pure, freeze, Nat.reduceDiv, Int.reduceEq, Int.reduceLT, Int.reduceLE, Int.natCast_zero, LV.cells, allocL, List.getElem?_cons_zero, List.getElem?_cons_succ, storeL, spliceL, List.take_zero, List.take_succ_cons, List.drop_zero, List.drop_succ_cons, List.drop_nil, List.take_nil, Nat.le_refl, Nat.reduceMul, List.set_cons_zero, List.set_cons_succ, LV.scalar, List.all_cons, List.all_nil, Nat.lt_add_one, Nat.zero_lt_one, Nat.reduceLT, Nat.lt_irrefl, fillL, List.length_append, foldIntL, kind_beq, pures_int, solids_int, plains_int, unders_int, scalars_int, show ((q : Int) < (t.length : Int)) by omega, hcl, f1, wp, g1]
theorem put_c (nl ex : Bool) {t : List Nat} (D : Td t) (d : Nat) : d ≤ t.length → PutOk nl ex t d := by
  have h7 := D.h7
  induction d with
  | zero =>
    intro _ h X c h' hl hX e
    obtain ⟨rfl, rfl⟩ := Prod.mk.inj (Option.some.inj e)
    refine ⟨?_, hl⟩
    have ht := HM_trim nl ex (ci t) t.length h X [] hX true
    have hlen : (HM (IL nl ex 1 (ci t)) t.length h X).length = 4 + X.length := by simp [HM]; omega
    rw [List.append_nil] at ht
    have hr : retL wash_Half_1.results (exF LP wash_Half_1.body (LEnv.ofFrom 0 [.int .i64 ((t.length - 0 : Nat) : Int), .ptr 2 0 1, .ptr 3 0 1, .ptr 0 0 1]) (HM (IL nl ex 1 (ci t)) t.length h X)) = some (.bool true, HM (IL nl ex 1 (ci t)) t.length h X) := by
      rw [Nat.sub_zero]
      simp only [wash_Half_1, wash_Half_1.B, beqT, beqF, exF_seq, exF_region, exF_block, exF_cond, exF_ret, exF_exit, exF_skip, runL, wantL, stepL, evL, LEnv.at, putL, loadFine, loadL, cellsAt, Trk.putNew, Trk.up, Trk.touch, Trk.gives, Trk.calm, Trk.hit, opdsOf, Trk.fresh, LEnv.keep, LEnv.ofFrom, List.map_cons, List.map_nil, nbeq, nble, nblt, ofAV, ofAVs, lenL, bin_add, bin_sub, bin_mul, bin_eql, bin_neq, bin_lss, bin_leq, bin_gtr, bin_geq, natL_nat, natL_zero, natL_one, natL_two, Nat.zero_mul, List.any_cons, List.any_nil, Bool.or_false, Bool.false_or, Bool.true_or, Bool.or_true, Bool.and_true, Bool.true_and, Bool.and_false, Bool.false_and, Bool.not_true, Bool.not_false, Nat.reduceBEq, Nat.reduceEqDiff, decide_true, decide_false, cond_true, cond_false, List.filter_nil, List.filter_cons, Nat.reduceAdd, Nat.reduceLeDiff, reduceCtorEq, List.length_nil, List.length_cons, Nat.mul_one, if_true, if_false, Bool.false_eq_true, eq_self, and_true, true_and, retL, resultsL, resAllL, resOfL, List.append_nil, List.nil_append, List.cons_append, true_or, or_true, false_or, or_false, false_and, and_false, not_true_eq_false, not_false_eq_true, ne_eq, unL, trim_nil, views_pures, LV.pures, LV.pure, freeze, Nat.reduceDiv, Int.reduceEq, Int.reduceLT, Int.reduceLE, Int.natCast_zero, LV.cells, allocL, List.getElem?_cons_zero, List.getElem?_cons_succ, storeL, spliceL, List.take_zero, List.take_succ_cons, List.drop_zero, List.drop_succ_cons, List.drop_nil, List.take_nil, Nat.le_refl, Nat.reduceMul, List.set_cons_zero, List.set_cons_succ, LV.scalar, List.all_cons, List.all_nil, Nat.lt_add_one, Nat.zero_lt_one, Nat.reduceLT, Nat.lt_irrefl, fillL, List.length_append, foldIntL, kind_beq, pures_int, solids_int, plains_int, unders_int, scalars_int, SLH]
    rw [call_W lp_wash_Half_1 rfl hr, hlen, ht]
  | succ d ih =>
    intro hd h X c h' hl hX e
    have G := ih (by omega)
    have hat := hi_at h (t.length - (d + 1)) (by omega)
    have hL : (ints (hi h)).length = t.length := by simp [hl]
    have wp : IntKind.i64.wrap (((t.length - (d + 1) : Nat) : Int) + 1) = ((t.length - d : Nat) : Int) := by rw [wrap_in (by omega)]; omega
    have hne : ¬ ((t.length - (d + 1) : Nat) : Int) = (t.length : Int) := by omega
    have hlt : t.length - (d + 1) < t.length := by omega
    have hlen : (HM (IL nl ex 1 (ci t)) t.length h X).length = 4 + X.length := by simp [HM]; omega
    rw [putF] at e
    cases c2 : Nat.blt 0 (nth h (t.length - (d + 1)))
    · rw [c2, cond_false] at e
      have n2 : ¬ (0 : Int) ≤ ((nth h (t.length - (d + 1)) : Int) - 1) := by rw [nblt, decide_eq_false_iff_not] at c2; omega
      obtain ⟨Z, z1, z2, z3⟩ := put_loop nl ex D d hd G h hl t.length 0 X c h' (by omega) hX e
      refine ⟨?_, z3⟩
      simp only [Int.natCast_zero] at z2
      have ht := HM_trim nl ex (ci t) t.length h' X Z hX c
      have hr : retL wash_Half_1.results (exF LP wash_Half_1.body (LEnv.ofFrom 0 [.int .i64 ((t.length - (d + 1) : Nat) : Int), .ptr 2 0 1, .ptr 3 0 1, .ptr 0 0 1]) (HM (IL nl ex 1 (ci t)) t.length h X)) = some (.bool c, HM (IL nl ex 1 (ci t)) t.length h' (X ++ Z)) := by
        simp only [HM, SLH] at z2 ⊢
        cases c
        · simp only [Bool.false_eq_true, if_false] at z2
          simp only [wash_Half_1, wash_Half_1.B, beqT, beqF, exF_seq, exF_region, exF_block, exF_cond, exF_ret, exF_exit, exF_skip, runL, wantL, stepL, evL, LEnv.at, putL, loadFine, loadL, cellsAt, Trk.putNew, Trk.up, Trk.touch, Trk.gives, Trk.calm, Trk.hit, opdsOf, Trk.fresh, LEnv.keep, LEnv.ofFrom, List.map_cons, List.map_nil, nbeq, nble, nblt, ofAV, ofAVs, lenL, bin_add, bin_sub, bin_mul, bin_eql, bin_neq, bin_lss, bin_leq, bin_gtr, bin_geq, natL_nat, natL_zero, natL_one, natL_two, Nat.zero_mul, List.any_cons, List.any_nil, Bool.or_false, Bool.false_or, Bool.true_or, Bool.or_true, Bool.and_true, Bool.true_and, Bool.and_false, Bool.false_and, Bool.not_true, Bool.not_false, Nat.reduceBEq, Nat.reduceEqDiff, decide_true, decide_false, cond_true, cond_false, List.filter_nil, List.filter_cons, Nat.reduceAdd, Nat.reduceLeDiff, reduceCtorEq, List.length_nil, List.length_cons, Nat.mul_one, if_true, if_false, Bool.false_eq_true, eq_self, and_true, true_and, retL, resultsL, resAllL, resOfL, List.append_nil, List.nil_append, List.cons_append, true_or, or_true, false_or, or_false, false_and, and_false, not_true_eq_false, not_false_eq_true, ne_eq, unL, trim_nil, views_pures, LV.pures, LV.pure, freeze, Nat.reduceDiv, Int.reduceEq, Int.reduceLT, Int.reduceLE, Int.natCast_zero, LV.cells, allocL, List.getElem?_cons_zero, List.getElem?_cons_succ, storeL, spliceL, List.take_zero, List.take_succ_cons, List.drop_zero, List.drop_succ_cons, List.drop_nil, List.take_nil, Nat.le_refl, Nat.reduceMul, List.set_cons_zero, List.set_cons_succ, LV.scalar, List.all_cons, List.all_nil, Nat.lt_add_one, Nat.zero_lt_one, Nat.reduceLT, Nat.lt_irrefl, fillL, List.length_append, foldIntL, kind_beq, pures_int, solids_int, plains_int, unders_int, scalars_int, Nat.zero_add, hne, hlt, hL, hat, n2, z2]
        · simp only [if_true] at z2
          simp only [wash_Half_1, wash_Half_1.B, beqT, beqF, exF_seq, exF_region, exF_block, exF_cond, exF_ret, exF_exit, exF_skip, runL, wantL, stepL, evL, LEnv.at, putL, loadFine, loadL, cellsAt, Trk.putNew, Trk.up, Trk.touch, Trk.gives, Trk.calm, Trk.hit, opdsOf, Trk.fresh, LEnv.keep, LEnv.ofFrom, List.map_cons, List.map_nil, nbeq, nble, nblt, ofAV, ofAVs, lenL, bin_add, bin_sub, bin_mul, bin_eql, bin_neq, bin_lss, bin_leq, bin_gtr, bin_geq, natL_nat, natL_zero, natL_one, natL_two, Nat.zero_mul, List.any_cons, List.any_nil, Bool.or_false, Bool.false_or, Bool.true_or, Bool.or_true, Bool.and_true, Bool.true_and, Bool.and_false, Bool.false_and, Bool.not_true, Bool.not_false, Nat.reduceBEq, Nat.reduceEqDiff, decide_true, decide_false, cond_true, cond_false, List.filter_nil, List.filter_cons, Nat.reduceAdd, Nat.reduceLeDiff, reduceCtorEq, List.length_nil, List.length_cons, Nat.mul_one, if_true, if_false, Bool.false_eq_true, eq_self, and_true, true_and, retL, resultsL, resAllL, resOfL, List.append_nil, List.nil_append, List.cons_append, true_or, or_true, false_or, or_false, false_and, and_false, not_true_eq_false, not_false_eq_true, ne_eq, unL, trim_nil, views_pures, LV.pures, LV.pure, freeze, Nat.reduceDiv, Int.reduceEq, Int.reduceLT, Int.reduceLE, Int.natCast_zero, LV.cells, allocL, List.getElem?_cons_zero, List.getElem?_cons_succ, storeL, spliceL, List.take_zero, List.take_succ_cons, List.drop_zero, List.drop_succ_cons, List.drop_nil, List.take_nil, Nat.le_refl, Nat.reduceMul, List.set_cons_zero, List.set_cons_succ, LV.scalar, List.all_cons, List.all_nil, Nat.lt_add_one, Nat.zero_lt_one, Nat.reduceLT, Nat.lt_irrefl, fillL, List.length_append, foldIntL, kind_beq, pures_int, solids_int, plains_int, unders_int, scalars_int, Nat.zero_add, hne, hlt, hL, hat, n2, z2]
      rw [call_W lp_wash_Half_1 rfl hr, hlen, ht]
    · rw [c2, cond_true] at e
      have n2 : (0 : Int) ≤ ((nth h (t.length - (d + 1)) : Int) - 1) := by rw [nblt, decide_eq_true_eq] at c2; omega
      obtain ⟨g1, g2⟩ := G h X c h' hl hX e
      refine ⟨?_, g2⟩
      have ht := HM_trim nl ex (ci t) t.length h' X [] hX c
      rw [List.append_nil] at ht
      have hr : retL wash_Half_1.results (exF LP wash_Half_1.body (LEnv.ofFrom 0 [.int .i64 ((t.length - (d + 1) : Nat) : Int), .ptr 2 0 1, .ptr 3 0 1, .ptr 0 0 1]) (HM (IL nl ex 1 (ci t)) t.length h X)) = some (.bool c, HM (IL nl ex 1 (ci t)) t.length h' X) := by
        simp only [HM, SLH] at g1 ⊢
        simp only [wash_Half_1, wash_Half_1.B, beqT, beqF, exF_seq, exF_region, exF_block, exF_cond, exF_ret, exF_exit, exF_skip, runL, wantL, stepL, evL, LEnv.at, putL, loadFine, loadL, cellsAt, Trk.putNew, Trk.up, Trk.touch, Trk.gives, Trk.calm, Trk.hit, opdsOf, Trk.fresh, LEnv.keep, LEnv.ofFrom, List.map_cons, List.map_nil, nbeq, nble, nblt, ofAV, ofAVs, lenL, bin_add, bin_sub, bin_mul, bin_eql, bin_neq, bin_lss, bin_leq, bin_gtr, bin_geq, natL_nat, natL_zero, natL_one, natL_two, Nat.zero_mul, List.any_cons, List.any_nil, Bool.or_false, Bool.false_or, Bool.true_or, Bool.or_true, Bool.and_true, Bool.true_and, Bool.and_false, Bool.false_and, Bool.not_true, Bool.not_false, Nat.reduceBEq, Nat.reduceEqDiff, decide_true, decide_false, cond_true, cond_false, List.filter_nil, List.filter_cons, Nat.reduceAdd, Nat.reduceLeDiff, reduceCtorEq, List.length_nil, List.length_cons, Nat.mul_one, if_true, if_false, Bool.false_eq_true, eq_self, and_true, true_and, retL, resultsL, resAllL, resOfL, List.append_nil, List.nil_append, List.cons_append, true_or, or_true, false_or, or_false, false_and, and_false, not_true_eq_false, not_false_eq_true, ne_eq, unL, trim_nil, views_pures, LV.pures, LV.pure, freeze, Nat.reduceDiv, Int.reduceEq, Int.reduceLT, Int.reduceLE, Int.natCast_zero, LV.cells, allocL, List.getElem?_cons_zero, List.getElem?_cons_succ, storeL, spliceL, List.take_zero, List.take_succ_cons, List.drop_zero, List.drop_succ_cons, List.drop_nil, List.take_nil, Nat.le_refl, Nat.reduceMul, List.set_cons_zero, List.set_cons_succ, LV.scalar, List.all_cons, List.all_nil, Nat.lt_add_one, Nat.zero_lt_one, Nat.reduceLT, Nat.lt_irrefl, fillL, List.length_append, foldIntL, kind_beq, pures_int, solids_int, plains_int, unders_int, scalars_int, Nat.zero_add, hne, hlt, hL, hat, n2, wp, g1]
      rw [call_W lp_wash_Half_1 rfl hr, hlen, ht]
end Go.Am.Wash

