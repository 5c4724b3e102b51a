import Derived.Test.YtgogknjedpmcgaaWashP6
import Derived.Test.YtgogknjedpmcgaaWashC16
import Derived.Test.YtgogknjedpmcgaaWashD4
/-
  Plain: what is tried of tides of at most seven places: a half is found just if the number of halves says so; after how many tides all is back. No statement of the seat is proved here.
-/
set_option linter.unusedVariables false
set_option linter.unusedSimpArgs false
namespace Go.Am.Wash
def decL : List Nat → List Nat
  | [] => []
  | x :: r => (x - 1) :: decL r
def oddN (R : List (List Nat)) : Nat := (cntN R 2 + cntN R 4 + cntN R 6) % 2
/-- What is tried. -/
def chkW (t : List Nat) : Bool := match ringsP t with
  | some R => match prodF R 8 0 1 with
    | some N => match bkF t (idN t.length 0) 20 1 t with
      | some b => cond (Nat.ble b 12) (cond (Nat.beq N 0) (Nat.beq (b % 2) 0) (match putF t t.length t.length (List.replicate t.length 0) with
        | some (true, h) => cond (allN (fun x => cond (Nat.blt 0 x) (Nat.ble x t.length) false) h) (cond (eqN (mapN (decL h) (decL h)) t) (Nat.beq (oddN R) 0) false) false
        | _ => false)) false
      | none => false
    | none => false
  | none => false
theorem w1 : allP 1 chkW 1 [] = true := by kernel_rfl
theorem w2 : allP 2 chkW 2 [] = true := by kernel_rfl
theorem w3 : allP 3 chkW 3 [] = true := by kernel_rfl
theorem w4 : allP 4 chkW 4 [] = true := by kernel_rfl
theorem w5 : allP 5 chkW 5 [] = true := by kernel_rfl
end Go.Am.Wash

/-
  Plain: as many halves as rings say, from the longest rings down; when there is none. No statement of the seat is proved here.
-/
set_option linter.unusedVariables false
set_option linter.unusedSimpArgs false
namespace Go.Am.Wash
def prodD (R : List (List Nat)) : Nat → Nat → Option Nat
  | 0, a => some a
  | m + 1, a => cond (Nat.ble (a * matN (m + 1) (cntN R (m + 1))) 1152921504606846976) (prodD R m (a * matN (m + 1) (cntN R (m + 1)))) none
def whyN (R : List (List Nat)) : Nat := cond (Nat.beq (cntN R 2 % 2) 1) 2 (cond (Nat.beq (cntN R 4 % 2) 1) 4 (cond (Nat.beq (cntN R 6 % 2) 1) 6 0))
def chkZ (t : List Nat) : Bool := match ringsP t with
  | some R => match prodF R 8 0 1 with
    | some N => cond (eqO (prodD R 7 1) N) (cond (Nat.beq N 0) (Nat.blt 0 (whyN R)) (Nat.beq (whyN R) 0)) false
    | none => false
  | none => false
theorem z1 : allP 1 chkZ 1 [] = true := by kernel_rfl
theorem z2 : allP 2 chkZ 2 [] = true := by kernel_rfl
theorem z3 : allP 3 chkZ 3 [] = true := by kernel_rfl
theorem z4 : allP 4 chkZ 4 [] = true := by kernel_rfl
theorem z5 : allP 5 chkZ 5 [] = true := by kernel_rfl
theorem z6_0 : allP 6 chkZ 5 [0] = true := by kernel_rfl
theorem z6_1 : allP 6 chkZ 5 [1] = true := by kernel_rfl
theorem z6_2 : allP 6 chkZ 5 [2] = true := by kernel_rfl
theorem z6_3 : allP 6 chkZ 5 [3] = true := by kernel_rfl
theorem z6_4 : allP 6 chkZ 5 [4] = true := by kernel_rfl
theorem z6_5 : allP 6 chkZ 5 [5] = true := by kernel_rfl
theorem z6 : allP 6 chkZ 6 [] = true := allP_one 6 chkZ 5 [] fun y hy _ => match y, hy with
  | 0, _ => z6_0 | 1, _ => z6_1 | 2, _ => z6_2 | 3, _ => z6_3 | 4, _ => z6_4 | 5, _ => z6_5
theorem chkZ_all {t : List Nat} (h : Tide t.length t) (h1' : 1 ≤ t.length) (h6' : t.length ≤ 6) : chkZ t = true := by
  have hm : allP t.length chkZ t.length [] = true := by
    match hn : t.length, h1', h6' with
    | 1, _, _ => exact z1
    | 2, _, _ => exact z2
    | 3, _, _ => exact z3
    | 4, _, _ => exact z4
    | 5, _, _ => exact z5
    | 6, _, _ => exact z6
  exact tide_all hm h
/-- What was tried. -/
theorem downs {t : List Nat} (h : Tide t.length t) (h1' : 1 ≤ t.length) (h6' : t.length ≤ 6) {R : List (List Nat)} {N : Nat} (hR : ringsP t = some R) (hN : prodF R 8 0 1 = some N) : prodD R 7 1 = some N ∧ (N = 0 ↔ 0 < whyN R) := by
  have hc := chkZ_all h h1' h6'
  unfold chkZ at hc
  rw [hR] at hc
  simp only [hN] at hc
  obtain ⟨a, b⟩ := cond_split hc
  refine ⟨?_, ?_⟩
  · cases hd : prodD R 7 1 with
    | none => rw [hd] at a; cases a
    | some x => rw [hd, eqO] at a; rw [Nat.eq_of_beq_eq_true a]
  · cases hb : Nat.beq N 0
    · rw [hb, cond_false] at b
      have : N ≠ 0 := by intro e; rw [e] at hb; cases hb
      have : whyN R = 0 := by simpa using b
      omega
    · rw [hb, cond_true] at b
      have : N = 0 := by simpa using hb
      have := blt_of b
      omega
end Go.Am.Wash

/-
  What functions of chapter 13 compute, outright 5: the law 'WashRoots'.
-/
set_option linter.unusedVariables false
set_option linter.unusedSimpArgs false
set_option maxRecDepth 10000
set_option maxHeartbeats 1000000
namespace Go.Am.Wash
open Go.Am.G

theorem views_both (k : Nat) (m : LMem) (a b a' b' : LV) (ids ids' : List Nat) (ha : ∀ k, view (k + 3) m a = some (a', ids)) (hb : ∀ k, view (k + 3) m b = some (b', ids')) (hn : LV.pures [a, b] = false) : viewL (k + 8) m [a, b] = some ([a', b'], ids ++ ids') := by
  rw [viewL.eq_def]
  simp only [hn, cond_false]
  rw [viewC.eq_def]
  simp only [ha]
  rw [viewC.eq_def]
  simp only [hb]
  rw [viewC.eq_def]
  simp
/-- A tide out of memory. -/
theorem view_tide {m : LMem} {b : Nat} {l : List Nat} {n : Nat} (hn : l.length = n) (h : m[b]? = some ⟨ints (ci l), true⟩) : ∀ k, view (k + 3) m (.sl b 0 n n 1 1 n) = some (IL false false 1 (ci l), [b]) := fun k => by
  have := view_sl k m b 0 n n 1 (ci l) true h (by rw [ci_len]; exact hn) (by omega) n (Nat.le_refl _)
  rw [List.drop_zero, List.take_of_length_le (by rw [ci_len]; omega)] at this
  rw [this]
  simp [nbeq]
theorem thenN_map (a b : List Nat) : thenN a b = mapN b a := by
  induction a with
  | nil => rfl
  | cons x r ih => rw [mapN, ← ih]; rfl
theorem isHalf_iff (t l : List Nat) : isHalf t l = decide (thenN l l = t) := by
  rw [isHalf, ← thenN_map, Bool.eq_iff_iff, decide_eq_true_eq]
  constructor
  · exact eqN_ok _ _
  · intro h; rw [h]; exact (eqN_all t t rfl).2 rfl
/-! ### What goes through all tides -/
abbrev RTC : List LV := [.ptr 1 0 1, .ptr 2 0 1, .ptr 3 0 1]
abbrev RTB (n : Nat) : LMem := [⟨[.int .i64 (n : Int)], true⟩, ⟨[.func n_law13_WashRoots_1 [] RTC], true⟩, ⟨[.func n_law13_tides_1 [] [.ptr 4 0 1, .ptr 5 0 1, .ptr 6 0 1]], true⟩]
abbrev RTH (w8 : List LV) (t : List Nat) (c : Nat) (F : LV) (Y : LMem) : LMem := ⟨w8, true⟩ :: ⟨[IL false false 1 (ci t)], true⟩ :: ⟨[.int .i64 (c : Int)], true⟩ :: ⟨[F], true⟩ :: Y
def FOk (n z : Nat) (s : List (List Nat)) (m : LMem) (F : LV) : Prop := match s with
  | [] => F = .lst true true 0 0 []
  | q :: _ => ∃ b, F = .sl b 0 n n 1 1 n ∧ z ≤ b ∧ m[b]? = some ⟨ints (ci q), true⟩
theorem FOk.mono {n z : Nat} {s : List (List Nat)} {m m' : LMem} {F : LV} (h : FOk n z s m F) (hm : ∀ i, z ≤ i → i < m.length → m'[i]? = m[i]?) : FOk n z s m' F := by
  cases s with
  | nil => exact h
  | cons q r =>
    obtain ⟨b, h1, h2, h3⟩ := h
    exact ⟨b, h1, h2, by rw [hm b h2 (List.getElem?_eq_some_iff.1 h3).1]; exact h3⟩
/-- What is kept through a trim. -/
theorem FOk.trim {n : Nat} {s : List (List Nat)} {w8 : List LV} {t : List Nat} {c : Nat} {F : LV} {Y : LMem} {k : Nat} (vs : List LV) (h : FOk n 7 s (RTH w8 t c F Y) F) (hk : 4 ≤ k) : ∃ Y', trim k vs (RTH w8 t c F Y) = RTH w8 t c F Y' ∧ FOk n 7 s (RTH w8 t c F Y') F ∧ (Y' = Y ∨ Y' = Y.take (k - 4)) := by
  unfold Go.Am.trim
  cases hc : (LV.unders k vs && belowM k ((RTH w8 t c F Y).take k))
  · exact ⟨Y, rfl, h, .inl rfl⟩
  · rw [cond_true]
    have e : (RTH w8 t c F Y).take k = RTH w8 t c F (Y.take (k - 4)) := by
      obtain ⟨j, rfl⟩ : ∃ j, k = j + 4 := ⟨k - 4, by omega⟩
      simp
    rw [e] at hc ⊢
    refine ⟨Y.take (k - 4), rfl, ?_, .inr rfl⟩
    cases s with
    | nil => exact h
    | cons q r =>
      obtain ⟨b, h1, h2, h3⟩ := h
      refine ⟨b, h1, h2, ?_⟩
      subst h1
      simp only [Bool.and_eq_true] at hc
      have hb := hc.2
      simp only [belowM, List.all_cons, Bool.and_eq_true, LV.unders, LV.under] at hb
      have hbk : b < k := by
        have := hb.2.2.2.1
        simpa [nblt] using this
      rw [← h3, ← e, List.getElem?_take, if_pos hbk]
def RI (w8 : List LV) (t : List Nat) (n : Nat) (s : List (List Nat)) (m : LMem) : Prop := ∃ F Y, m = RTH w8 t s.length F (RTB n ++ Y) ∧ FOk n 7 s m F
def rvis (t : List Nat) (s : List (List Nat)) (l : List Nat) : List (List Nat) := if isHalf t l then s ++ [l] else s
theorem rvis_fold (t : List Nat) : ∀ (L s : List (List Nat)), L.foldl (rvis t) s = s ++ L.filter (isHalf t)
  | [], s => by simp
  | x :: r, s => by
    rw [List.foldl_cons, rvis_fold t r, rvis, List.filter_cons]
    cases isHalf t x <;> simp
theorem RI_vis (w8 : List LV) {t : List Nat} (D : Td t) (s : List (List Nat)) (hs : s.length < 1000000) (m : LMem) (l : List Nat) (b : Nat) (hI : RI w8 t t.length s m) (hT : Tide t.length l) (hb : 7 ≤ b) (hm : m[b]? = some ⟨ints (ci l), true⟩) :
    ∃ m', clF LP n_law13_WashRoots_1 ([] ++ ([.sl b 0 t.length t.length 1 1 t.length] ++ RTC)) m = some (.W, .tup [], m') ∧ RI w8 t t.length (rvis t s l) m' ∧ m.length ≤ m'.length ∧ ∀ i, 7 ≤ i → i < m.length → m'[i]? = m[i]? := by
  have h7 := D.h7
  have h1 := D.h1
  obtain ⟨F, Y, rfl, hF⟩ := hI
  have hv := view_tide hT.1 hm
  have hvs : views (RTH w8 t s.length F (RTB t.length ++ Y)) [.sl b 0 t.length t.length 1 1 t.length, .sl b 0 t.length t.length 1 1 t.length] = some ([IL false false 1 (ci l), IL false false 1 (ci l)], [b] ++ [b]) := views_both 32 _ _ _ _ _ _ _ hv hv (by simp [LV.pures, LV.pure])
  have hth := thenL_m false false false false 1 1 l l hvs (by intro x hx; rw [hT.1]; exact hT.2.2 x hx) (by rw [hT.1]; omega)
  have hsm := fun a b c m => same_c a b false false c 1 (thenN l l) t (by rw [thenN_len, hT.1]; omega) (by omega) m
  rw [← isHalf_iff] at hsm
  have hsm : ∀ m, clF LP n_law13_same [RLn (thenN l l), IL false false 1 (ci t)] m = some (.P, .bool (isHalf t l), m) := fun m => hsm _ _ _ m
  have keep : ∀ (m m' : LMem), m'.length = m.length → trim m.length [.tup []] m' = m' := fun m m' h => trim_le _ _ _ (by omega)
  have hst : ∀ y : Nat, ¬ (y + 1 + 1 + 1 + 1 + 1 + 1 + 1 ≤ 1) := by intros; omega
  generalize hX : RLn (thenN l l) = X at *
  rw [rvis]
  cases c : isHalf t l
  · rw [c] at hsm
    simp only [Bool.false_eq_true, if_false]
    refine ⟨_, ?_, ⟨F, Y, rfl, hF⟩, Nat.le_refl _, fun _ _ _ => rfl⟩
    have k := keep (RTH w8 t s.length F (RTB t.length ++ Y)) _ rfl
    conv => rhs; rw [← k]
    refine call_W lp_law13_WashRoots_1 rfl ?_
    simp only [List.cons_append, List.nil_append, RTH, RTB, RTC] at hth ⊢
    simp only [law13_WashRoots_1, law13_WashRoots_1.B, beqT, beqF, exF_seq, exF_region, exF_block, exF_cond, exF_ret, exF_exit, exF_skip, runL, wantL, stepL, evL, LEnv.at, putL, loadFine, loadL, cellsAt, Trk.putNew, Trk.up, Trk.touch, Trk.gives, Trk.calm, Trk.hit, opdsOf, Trk.fresh, LEnv.keep, LEnv.ofFrom, List.map_cons, List.map_nil, nbeq, nble, nblt, ofAV, ofAVs, lenL, bin_add, bin_sub, bin_mul, bin_eql, bin_neq, bin_lss, bin_leq, bin_gtr, bin_geq, natL_nat, natL_zero, natL_one, natL_two, Nat.zero_mul, List.any_cons, List.any_nil, Bool.or_false, Bool.false_or, Bool.true_or, Bool.or_true, Bool.and_true, Bool.true_and, Bool.and_false, Bool.false_and, Bool.not_true, Bool.not_false, Nat.reduceBEq, Nat.reduceEqDiff, decide_true, decide_false, cond_true, cond_false, List.filter_nil, List.filter_cons, Nat.reduceAdd, Nat.reduceLeDiff, reduceCtorEq, List.length_nil, List.length_cons, Nat.mul_one, if_true, if_false, Bool.false_eq_true, eq_self, and_true, true_and, retL, resultsL, resAllL, resOfL, List.append_nil, List.nil_append, List.cons_append, true_or, or_true, false_or, or_false, false_and, and_false, not_true_eq_false, not_false_eq_true, ne_eq, unL, trim_nil, views_pures, LV.pures, LV.pure, freeze, Nat.reduceDiv, Int.reduceEq, Int.reduceLT, Int.reduceLE, Int.natCast_zero, LV.cells, allocL, List.getElem?_cons_zero, List.getElem?_cons_succ, storeL, spliceL, List.take_zero, List.take_succ_cons, List.drop_zero, List.drop_succ_cons, List.drop_nil, List.take_nil, Nat.le_refl, Nat.reduceMul, List.set_cons_zero, List.set_cons_succ, LV.scalar, List.all_cons, List.all_nil, Nat.lt_add_one, Nat.zero_lt_one, Nat.reduceLT, Nat.lt_irrefl, fillL, List.length_append, foldIntL, kind_beq, pures_int, solids_int, plains_int, unders_int, scalars_int, hth, hst, hsm]
  · rw [c] at hsm
    simp only [if_true]
    cases s with
    | nil =>
      have hF' : F = .lst true true 0 0 [] := hF
      subst hF'
      refine ⟨RTH w8 t 1 (.sl b 0 t.length t.length 1 1 t.length) (RTB t.length ++ Y), ?_, ⟨_, Y, rfl, b, rfl, hb, ?_⟩, by simp, fun i h1 h2 => ?_⟩
      · have k := keep (RTH w8 t ([] : List (List Nat)).length (.lst true true 0 0 []) (RTB t.length ++ Y)) (RTH w8 t 1 (.sl b 0 t.length t.length 1 1 t.length) (RTB t.length ++ Y)) (by simp)
        conv => rhs; rw [← k]
        refine call_W lp_law13_WashRoots_1 rfl ?_
        simp only [List.cons_append, List.nil_append, RTH, RTB, RTC, List.length_nil, Int.natCast_zero] at hth ⊢
        simp only [law13_WashRoots_1, law13_WashRoots_1.B, beqT, beqF, exF_seq, exF_region, exF_block, exF_cond, exF_ret, exF_exit, exF_skip, runL, wantL, stepL, evL, LEnv.at, putL, loadFine, loadL, cellsAt, Trk.putNew, Trk.up, Trk.touch, Trk.gives, Trk.calm, Trk.hit, opdsOf, Trk.fresh, LEnv.keep, LEnv.ofFrom, List.map_cons, List.map_nil, nbeq, nble, nblt, ofAV, ofAVs, lenL, bin_add, bin_sub, bin_mul, bin_eql, bin_neq, bin_lss, bin_leq, bin_gtr, bin_geq, natL_nat, natL_zero, natL_one, natL_two, Nat.zero_mul, List.any_cons, List.any_nil, Bool.or_false, Bool.false_or, Bool.true_or, Bool.or_true, Bool.and_true, Bool.true_and, Bool.and_false, Bool.false_and, Bool.not_true, Bool.not_false, Nat.reduceBEq, Nat.reduceEqDiff, decide_true, decide_false, cond_true, cond_false, List.filter_nil, List.filter_cons, Nat.reduceAdd, Nat.reduceLeDiff, reduceCtorEq, List.length_nil, List.length_cons, Nat.mul_one, if_true, if_false, Bool.false_eq_true, eq_self, and_true, true_and, retL, resultsL, resAllL, resOfL, List.append_nil, List.nil_append, List.cons_append, true_or, or_true, false_or, or_false, false_and, and_false, not_true_eq_false, not_false_eq_true, ne_eq, unL, trim_nil, views_pures, LV.pures, LV.pure, freeze, Nat.reduceDiv, Int.reduceEq, Int.reduceLT, Int.reduceLE, Int.natCast_zero, LV.cells, allocL, List.getElem?_cons_zero, List.getElem?_cons_succ, storeL, spliceL, List.take_zero, List.take_succ_cons, List.drop_zero, List.drop_succ_cons, List.drop_nil, List.take_nil, Nat.le_refl, Nat.reduceMul, List.set_cons_zero, List.set_cons_succ, LV.scalar, List.all_cons, List.all_nil, Nat.lt_add_one, Nat.zero_lt_one, Nat.reduceLT, Nat.lt_irrefl, fillL, List.length_append, foldIntL, kind_beq, pures_int, solids_int, plains_int, unders_int, scalars_int, hth, hst, hsm, show IntKind.i64.wrap ((0 : Int) + 1) = 1 from rfl]
        rfl
      · obtain ⟨j, rfl⟩ : ∃ j, b = j + 4 := ⟨b - 4, by omega⟩
        simpa using hm
      · obtain ⟨j, rfl⟩ : ∃ j, i = j + 4 := ⟨i - 4, by omega⟩
        simp
    | cons q r =>
      have hne : ¬ (((q :: r).length : Nat) : Int) = 0 := by simp; omega
      have hw := wrap_succ (show (q :: r).length + 1 < 9223372036854775808 by omega)
      refine ⟨RTH w8 t ((q :: r).length + 1) F (RTB t.length ++ Y), ?_, ⟨F, Y, by simp, ?_⟩, by simp, fun i h1 h2 => ?_⟩
      · have k := keep (RTH w8 t (q :: r).length F (RTB t.length ++ Y)) (RTH w8 t ((q :: r).length + 1) F (RTB t.length ++ Y)) (by simp)
        conv => rhs; rw [← k]
        refine call_W lp_law13_WashRoots_1 rfl ?_
        generalize (q :: r).length = z at *
        simp only [List.cons_append, List.nil_append, RTH, RTB, RTC] at hth ⊢
        simp only [law13_WashRoots_1, law13_WashRoots_1.B, beqT, beqF, exF_seq, exF_region, exF_block, exF_cond, exF_ret, exF_exit, exF_skip, runL, wantL, stepL, evL, LEnv.at, putL, loadFine, loadL, cellsAt, Trk.putNew, Trk.up, Trk.touch, Trk.gives, Trk.calm, Trk.hit, opdsOf, Trk.fresh, LEnv.keep, LEnv.ofFrom, List.map_cons, List.map_nil, nbeq, nble, nblt, ofAV, ofAVs, lenL, bin_add, bin_sub, bin_mul, bin_eql, bin_neq, bin_lss, bin_leq, bin_gtr, bin_geq, natL_nat, natL_zero, natL_one, natL_two, Nat.zero_mul, List.any_cons, List.any_nil, Bool.or_false, Bool.false_or, Bool.true_or, Bool.or_true, Bool.and_true, Bool.true_and, Bool.and_false, Bool.false_and, Bool.not_true, Bool.not_false, Nat.reduceBEq, Nat.reduceEqDiff, decide_true, decide_false, cond_true, cond_false, List.filter_nil, List.filter_cons, Nat.reduceAdd, Nat.reduceLeDiff, reduceCtorEq, List.length_nil, List.length_cons, Nat.mul_one, if_true, if_false, Bool.false_eq_true, eq_self, and_true, true_and, retL, resultsL, resAllL, resOfL, List.append_nil, List.nil_append, List.cons_append, true_or, or_true, false_or, or_false, false_and, and_false, not_true_eq_false, not_false_eq_true, ne_eq, unL, trim_nil, views_pures, LV.pures, LV.pure, freeze, Nat.reduceDiv, Int.reduceEq, Int.reduceLT, Int.reduceLE, Int.natCast_zero, LV.cells, allocL, List.getElem?_cons_zero, List.getElem?_cons_succ, storeL, spliceL, List.take_zero, List.take_succ_cons, List.drop_zero, List.drop_succ_cons, List.drop_nil, List.take_nil, Nat.le_refl, Nat.reduceMul, List.set_cons_zero, List.set_cons_succ, LV.scalar, List.all_cons, List.all_nil, Nat.lt_add_one, Nat.zero_lt_one, Nat.reduceLT, Nat.lt_irrefl, fillL, List.length_append, foldIntL, kind_beq, pures_int, solids_int, plains_int, unders_int, scalars_int, hth, hst, hsm, hne, hw]
      · obtain ⟨b', e1, e2, e3⟩ := hF
        refine ⟨b', e1, e2, ?_⟩
        obtain ⟨j, rfl⟩ : ∃ j, b' = j + 4 := ⟨b' - 4, by omega⟩
        simpa using e3
      · obtain ⟨j, rfl⟩ : ∃ j, i = j + 4 := ⟨i - 4, by omega⟩
        simp
end Go.Am.Wash

/-
  What functions of chapter 13 compute, outright 6: the law 'WashRoots', joined.
-/
set_option linter.unusedVariables false
set_option linter.unusedSimpArgs false
set_option maxRecDepth 10000
set_option maxHeartbeats 2000000
namespace Go.Am.Wash
open Go.Am.G

theorem provesP_c (nl ex : Bool) {t : List Nat} (D : Td t) {R : List (List Nat)} {n : Nat} (K : Known t R n) (l : Nat) (h1 : 1 ≤ l) (h7 : l ≤ 7) (m : LMem) : clF LP n_wash_Proves [IL nl ex 1 (ci t), .int .i64 (l : Int)] m = some (.P, .int .i64 (if l % 2 = 0 ∧ cnt R l % 2 = 1 then 0 else 14), m) := by
  have k1 := fun m => check_c nl ex 1 (ci t) (by rw [ci_len]; have := D.h7; omega) m
  rw [D.chk] at k1
  have hL : inB 1 7 (l : Int) = true := by simp only [inB, decide_eq_true_eq]; omega
  have hk := fun m => kindK_c nl ex 1 D K m
  have hR := fun l hl => (K.rows l hl).2.1
  have cc := kind_cell R hR l (by omega)
  have h8 := kind8 R
  have r1 := (rem2 l).2
  have r2 := (rem2 (cnt R l)).2
  generalize ints (ci (kindL R)) = w at *
  generalize cnt R l = x at *
  refine call_P lp_wash_Proves rfl (by simp [LV.pures, LV.pure]) (m1 := []) ?_ (by simp [LV.pures, LV.pure]) m
  by_cases o : l % 2 = 1
  · have o' : ((l % 2 : Nat) : Int) = 1 := by omega
    rw [if_neg (by omega)]
    simp only [wash_Proves, wash_Proves.B, beqT, beqF, exF_seq, exF_region, exF_block, exF_cond, exF_ret, exF_exit, exF_skip, runL, wantL, stepL, evL, LEnv.at, putL, loadFine, loadL, cellsAt, Trk.putNew, Trk.up, Trk.touch, Trk.gives, Trk.calm, Trk.hit, opdsOf, Trk.fresh, LEnv.keep, LEnv.ofFrom, List.map_cons, List.map_nil, nbeq, nble, nblt, ofAV, ofAVs, lenL, bin_add, bin_sub, bin_mul, bin_eql, bin_neq, bin_lss, bin_leq, bin_gtr, bin_geq, natL_nat, natL_zero, natL_one, natL_two, Nat.zero_mul, List.any_cons, List.any_nil, Bool.or_false, Bool.false_or, Bool.true_or, Bool.or_true, Bool.and_true, Bool.true_and, Bool.and_false, Bool.false_and, Bool.not_true, Bool.not_false, Nat.reduceBEq, Nat.reduceEqDiff, decide_true, decide_false, cond_true, cond_false, List.filter_nil, List.filter_cons, Nat.reduceAdd, Nat.reduceLeDiff, reduceCtorEq, List.length_nil, List.length_cons, Nat.mul_one, if_true, if_false, Bool.false_eq_true, eq_self, and_true, true_and, retL, resultsL, resAllL, resOfL, List.append_nil, List.nil_append, List.cons_append, true_or, or_true, false_or, or_false, false_and, and_false, not_true_eq_false, not_false_eq_true, ne_eq, unL, trim_nil, views_pures, LV.pures, LV.pure, freeze, Nat.reduceDiv, Int.reduceEq, Int.reduceLT, Int.reduceLE, Int.natCast_zero, LV.cells, allocL, List.getElem?_cons_zero, List.getElem?_cons_succ, storeL, spliceL, List.take_zero, List.take_succ_cons, List.drop_zero, List.drop_succ_cons, List.drop_nil, List.take_nil, Nat.le_refl, Nat.reduceMul, List.set_cons_zero, List.set_cons_succ, LV.scalar, List.all_cons, List.all_nil, Nat.lt_add_one, Nat.zero_lt_one, Nat.reduceLT, Nat.lt_irrefl, fillL, List.length_append, foldIntL, kind_beq, pures_int, solids_int, plains_int, unders_int, scalars_int, k1, within_c, hL, bin_rem _ _ _ (show (2 : Int) ≠ 0 by omega), r1, o']
  · have o' : ¬ ((l % 2 : Nat) : Int) = 1 := by omega
    by_cases c : x % 2 = 0
    · have c' : ((x % 2 : Nat) : Int) = 0 := by omega
      rw [if_neg (by omega)]
      simp only [wash_Proves, wash_Proves.B, beqT, beqF, exF_seq, exF_region, exF_block, exF_cond, exF_ret, exF_exit, exF_skip, runL, wantL, stepL, evL, LEnv.at, putL, loadFine, loadL, cellsAt, Trk.putNew, Trk.up, Trk.touch, Trk.gives, Trk.calm, Trk.hit, opdsOf, Trk.fresh, LEnv.keep, LEnv.ofFrom, List.map_cons, List.map_nil, nbeq, nble, nblt, ofAV, ofAVs, lenL, bin_add, bin_sub, bin_mul, bin_eql, bin_neq, bin_lss, bin_leq, bin_gtr, bin_geq, natL_nat, natL_zero, natL_one, natL_two, Nat.zero_mul, List.any_cons, List.any_nil, Bool.or_false, Bool.false_or, Bool.true_or, Bool.or_true, Bool.and_true, Bool.true_and, Bool.and_false, Bool.false_and, Bool.not_true, Bool.not_false, Nat.reduceBEq, Nat.reduceEqDiff, decide_true, decide_false, cond_true, cond_false, List.filter_nil, List.filter_cons, Nat.reduceAdd, Nat.reduceLeDiff, reduceCtorEq, List.length_nil, List.length_cons, Nat.mul_one, if_true, if_false, Bool.false_eq_true, eq_self, and_true, true_and, retL, resultsL, resAllL, resOfL, List.append_nil, List.nil_append, List.cons_append, true_or, or_true, false_or, or_false, false_and, and_false, not_true_eq_false, not_false_eq_true, ne_eq, unL, trim_nil, views_pures, LV.pures, LV.pure, freeze, Nat.reduceDiv, Int.reduceEq, Int.reduceLT, Int.reduceLE, Int.natCast_zero, LV.cells, allocL, List.getElem?_cons_zero, List.getElem?_cons_succ, storeL, spliceL, List.take_zero, List.take_succ_cons, List.drop_zero, List.drop_succ_cons, List.drop_nil, List.take_nil, Nat.le_refl, Nat.reduceMul, List.set_cons_zero, List.set_cons_succ, LV.scalar, List.all_cons, List.all_nil, Nat.lt_add_one, Nat.zero_lt_one, Nat.reduceLT, Nat.lt_irrefl, fillL, List.length_append, foldIntL, kind_beq, pures_int, solids_int, plains_int, unders_int, scalars_int, k1, within_c, hL, bin_rem _ _ _ (show (2 : Int) ≠ 0 by omega), r1, o', hk, show l < 8 by omega, h8, cc, r2, c']
    · have c' : ¬ ((x % 2 : Nat) : Int) = 0 := by omega
      rw [if_pos (by omega)]
      simp only [wash_Proves, wash_Proves.B, beqT, beqF, exF_seq, exF_region, exF_block, exF_cond, exF_ret, exF_exit, exF_skip, runL, wantL, stepL, evL, LEnv.at, putL, loadFine, loadL, cellsAt, Trk.putNew, Trk.up, Trk.touch, Trk.gives, Trk.calm, Trk.hit, opdsOf, Trk.fresh, LEnv.keep, LEnv.ofFrom, List.map_cons, List.map_nil, nbeq, nble, nblt, ofAV, ofAVs, lenL, bin_add, bin_sub, bin_mul, bin_eql, bin_neq, bin_lss, bin_leq, bin_gtr, bin_geq, natL_nat, natL_zero, natL_one, natL_two, Nat.zero_mul, List.any_cons, List.any_nil, Bool.or_false, Bool.false_or, Bool.true_or, Bool.or_true, Bool.and_true, Bool.true_and, Bool.and_false, Bool.false_and, Bool.not_true, Bool.not_false, Nat.reduceBEq, Nat.reduceEqDiff, decide_true, decide_false, cond_true, cond_false, List.filter_nil, List.filter_cons, Nat.reduceAdd, Nat.reduceLeDiff, reduceCtorEq, List.length_nil, List.length_cons, Nat.mul_one, if_true, if_false, Bool.false_eq_true, eq_self, and_true, true_and, retL, resultsL, resAllL, resOfL, List.append_nil, List.nil_append, List.cons_append, true_or, or_true, false_or, or_false, false_and, and_false, not_true_eq_false, not_false_eq_true, ne_eq, unL, trim_nil, views_pures, LV.pures, LV.pure, freeze, Nat.reduceDiv, Int.reduceEq, Int.reduceLT, Int.reduceLE, Int.natCast_zero, LV.cells, allocL, List.getElem?_cons_zero, List.getElem?_cons_succ, storeL, spliceL, List.take_zero, List.take_succ_cons, List.drop_zero, List.drop_succ_cons, List.drop_nil, List.take_nil, Nat.le_refl, Nat.reduceMul, List.set_cons_zero, List.set_cons_succ, LV.scalar, List.all_cons, List.all_nil, Nat.lt_add_one, Nat.zero_lt_one, Nat.reduceLT, Nat.lt_irrefl, fillL, List.length_append, foldIntL, kind_beq, pures_int, solids_int, plains_int, unders_int, scalars_int, k1, within_c, hL, bin_rem _ _ _ (show (2 : Int) ≠ 0 by omega), r1, o', hk, show l < 8 by omega, h8, cc, r2, c']

/-- Which length tells why. -/
def whyF (R : List (List Nat)) : Nat → Nat → Nat
  | 0, y => y
  | m + 1, y => whyF R m (if (m + 1) % 2 = 0 ∧ cnt R (m + 1) % 2 = 1 then m + 1 else y)
theorem whyF_eq (R : List (List Nat)) : whyF R 7 0 = whyN R := by
  simp only [whyF, whyN, cntN_eq, nbeq]
  by_cases c2 : cnt R 2 % 2 = 1
  · simp [c2]
  · by_cases c4 : cnt R 4 % 2 = 1
    · simp [c2, c4]
    · by_cases c6 : cnt R 6 % 2 = 1
      · simp [c2, c4, c6]
      · simp [c2, c4, c6]
theorem roots_loop {t : List Nat} (D : Td t) {R : List (List Nat)} {n : Nat} (K : Known t R n) (M : LMem) (p : Nat) (hT : M[1]? = some ⟨[IL false false 1 (ci t)], true⟩) (hp : M[p]? = some ⟨ints (ci (kindL R)), true⟩) (d : Nat) : ∀ (a y r : Nat), d ≤ 7 → a ≤ 1152921504606846976 → y ≤ 7 → prodD R d a = some r →
    exF LP law13_WashRoots.L0 [(3, .ptr 1 0 1), (4, .ptr 2 0 1), (5, .ptr 3 0 1), (6, .ptr p 0 8), (7, .int .i64 (a : Int)), (8, .int .i64 (y : Int)), (9, .int .i64 (d : Int))] M = some (.exit 0, [(3, .ptr 1 0 1), (4, .ptr 2 0 1), (5, .ptr 3 0 1), (7, .int .i64 (r : Int)), (8, .int .i64 (whyF R d y : Int))], M) := by
  have h8 := K.h8
  have hR := fun l hl => (K.rows l hl).2.1
  induction d with
  | zero =>
    intro a y r hd ha hy h
    obtain rfl : a = r := by simpa [prodD] using h
    rw [law13_WashRoots.L0_eq, whyF]
    simp only [law13_WashRoots.B0, beqT, beqF, exF_seq, exF_region, exF_block, exF_cond, exF_ret, exF_exit, exF_skip, runL, wantL, stepL, evL, LEnv.at, putL, loadFine, loadL, cellsAt, Trk.putNew, Trk.up, Trk.touch, Trk.gives, Trk.calm, Trk.hit, opdsOf, Trk.fresh, LEnv.keep, LEnv.ofFrom, List.map_cons, List.map_nil, nbeq, nble, nblt, ofAV, ofAVs, lenL, bin_add, bin_sub, bin_mul, bin_eql, bin_neq, bin_lss, bin_leq, bin_gtr, bin_geq, natL_nat, natL_zero, natL_one, natL_two, Nat.zero_mul, List.any_cons, List.any_nil, Bool.or_false, Bool.false_or, Bool.true_or, Bool.or_true, Bool.and_true, Bool.true_and, Bool.and_false, Bool.false_and, Bool.not_true, Bool.not_false, Nat.reduceBEq, Nat.reduceEqDiff, decide_true, decide_false, cond_true, cond_false, List.filter_nil, List.filter_cons, Nat.reduceAdd, Nat.reduceLeDiff, reduceCtorEq, List.length_nil, List.length_cons, Nat.mul_one, if_true, if_false, Bool.false_eq_true, eq_self, and_true, true_and, retL, resultsL, resAllL, resOfL, List.append_nil, List.nil_append, List.cons_append, true_or, or_true, false_or, or_false, false_and, and_false, not_true_eq_false, not_false_eq_true, ne_eq, unL, trim_nil, views_pures, LV.pures, LV.pure, freeze, Nat.reduceDiv, Int.reduceEq, Int.reduceLT, Int.reduceLE, Int.natCast_zero, LV.cells, allocL, List.getElem?_cons_zero, List.getElem?_cons_succ, storeL, spliceL, List.take_zero, List.take_succ_cons, List.drop_zero, List.drop_succ_cons, List.drop_nil, List.take_nil, Nat.le_refl, Nat.reduceMul, List.set_cons_zero, List.set_cons_succ, LV.scalar, List.all_cons, List.all_nil, Nat.lt_add_one, Nat.zero_lt_one, Nat.reduceLT, Nat.lt_irrefl, fillL, List.length_append, foldIntL, kind_beq, pures_int, solids_int, plains_int, unders_int, scalars_int]
  | succ d ih =>
    intro a y r hd ha hy h
    rw [prodD, cntN_eq] at h
    have cc := kind_cell R hR (d + 1) (by omega)
    have hcl := cnt_le R (d + 1)
    have hpa := fun M => pairs_c (d + 1) (cnt R (d + 1)) (by omega) (by omega) (by omega) M
    have hpr := fun m => provesP_c false false D K (d + 1) (by omega) (by omega) m
    have hk8 := kind8 R
    cases c : Nat.ble (a * matN (d + 1) (cnt R (d + 1))) 1152921504606846976
    · rw [c] at h; cases h
    · rw [c, cond_true] at h
      rw [nble, decide_eq_true_eq] at c
      have w1 : IntKind.i64.wrap ((a : Int) * (matN (d + 1) (cnt R (d + 1)) : Int)) = ((a * matN (d + 1) (cnt R (d + 1)) : Nat) : Int) := by rw [← Int.natCast_mul, wrap_in (by omega)]
      have r1 := (rem2 (d + 1)).2
      have r2 := (rem2 (cnt R (d + 1))).2
      have w2 : IntKind.i64.wrap (((d + 1 : Nat) : Int) - 1) = (d : Int) := by rw [wrap_in (by omega)]; omega
      have hgt : (0 : Int) < ((d + 1 : Nat) : Int) := by omega
      rw [whyF]
      have ih := fun y hy => ih (a * matN (d + 1) (cnt R (d + 1))) y r (by omega) c hy h
      generalize ints (ci (kindL R)) = w at *
      generalize a * matN (d + 1) (cnt R (d + 1)) = a2 at *
      generalize matN (d + 1) (cnt R (d + 1)) = mm at *
      generalize cnt R (d + 1) = x at *
      have hd8 : d + 1 < 8 := by omega
      rw [law13_WashRoots.L0_eq]
      by_cases o : (d + 1) % 2 = 0
      · have o' : (((d + 1) % 2 : Nat) : Int) = 0 := by omega
        by_cases v : x % 2 = 1
        · have v' : ((x % 2 : Nat) : Int) = 1 := by omega
          rw [if_pos ⟨o, v⟩]
          simp only [if_pos (And.intro o v)] at hpr
          have ih := ih (d + 1) (by omega)
          generalize d + 1 = e at *
          simp only [law13_WashRoots.B0, beqT, beqF, exF_seq, exF_region, exF_block, exF_cond, exF_ret, exF_exit, exF_skip, runL, wantL, stepL, evL, LEnv.at, putL, loadFine, loadL, cellsAt, Trk.putNew, Trk.up, Trk.touch, Trk.gives, Trk.calm, Trk.hit, opdsOf, Trk.fresh, LEnv.keep, LEnv.ofFrom, List.map_cons, List.map_nil, nbeq, nble, nblt, ofAV, ofAVs, lenL, bin_add, bin_sub, bin_mul, bin_eql, bin_neq, bin_lss, bin_leq, bin_gtr, bin_geq, natL_nat, natL_zero, natL_one, natL_two, Nat.zero_mul, List.any_cons, List.any_nil, Bool.or_false, Bool.false_or, Bool.true_or, Bool.or_true, Bool.and_true, Bool.true_and, Bool.and_false, Bool.false_and, Bool.not_true, Bool.not_false, Nat.reduceBEq, Nat.reduceEqDiff, decide_true, decide_false, cond_true, cond_false, List.filter_nil, List.filter_cons, Nat.reduceAdd, Nat.reduceLeDiff, reduceCtorEq, List.length_nil, List.length_cons, Nat.mul_one, if_true, if_false, Bool.false_eq_true, eq_self, and_true, true_and, retL, resultsL, resAllL, resOfL, List.append_nil, List.nil_append, List.cons_append, true_or, or_true, false_or, or_false, false_and, and_false, not_true_eq_false, not_false_eq_true, ne_eq, unL, trim_nil, views_pures, LV.pures, LV.pure, freeze, Nat.reduceDiv, Int.reduceEq, Int.reduceLT, Int.reduceLE, Int.natCast_zero, LV.cells, allocL, List.getElem?_cons_zero, List.getElem?_cons_succ, storeL, spliceL, List.take_zero, List.take_succ_cons, List.drop_zero, List.drop_succ_cons, List.drop_nil, List.take_nil, Nat.le_refl, Nat.reduceMul, List.set_cons_zero, List.set_cons_succ, LV.scalar, List.all_cons, List.all_nil, Nat.lt_add_one, Nat.zero_lt_one, Nat.reduceLT, Nat.lt_irrefl, fillL, List.length_append, foldIntL, kind_beq, pures_int, solids_int, plains_int, unders_int, scalars_int, hgt, hd8, hp, hk8, cc, Nat.zero_add, hpa, w1, bin_rem _ _ _ (show (2 : Int) ≠ 0 by omega), r1, r2, o', v', hT, hpr, w2, ih]
        · have v' : ¬ ((x % 2 : Nat) : Int) = 1 := by omega
          rw [if_neg (fun q => v q.2)]
          simp only [if_neg (fun q : _ ∧ _ => v q.2)] at hpr
          have ih := ih y hy
          generalize d + 1 = e at *
          simp only [law13_WashRoots.B0, beqT, beqF, exF_seq, exF_region, exF_block, exF_cond, exF_ret, exF_exit, exF_skip, runL, wantL, stepL, evL, LEnv.at, putL, loadFine, loadL, cellsAt, Trk.putNew, Trk.up, Trk.touch, Trk.gives, Trk.calm, Trk.hit, opdsOf, Trk.fresh, LEnv.keep, LEnv.ofFrom, List.map_cons, List.map_nil, nbeq, nble, nblt, ofAV, ofAVs, lenL, bin_add, bin_sub, bin_mul, bin_eql, bin_neq, bin_lss, bin_leq, bin_gtr, bin_geq, natL_nat, natL_zero, natL_one, natL_two, Nat.zero_mul, List.any_cons, List.any_nil, Bool.or_false, Bool.false_or, Bool.true_or, Bool.or_true, Bool.and_true, Bool.true_and, Bool.and_false, Bool.false_and, Bool.not_true, Bool.not_false, Nat.reduceBEq, Nat.reduceEqDiff, decide_true, decide_false, cond_true, cond_false, List.filter_nil, List.filter_cons, Nat.reduceAdd, Nat.reduceLeDiff, reduceCtorEq, List.length_nil, List.length_cons, Nat.mul_one, if_true, if_false, Bool.false_eq_true, eq_self, and_true, true_and, retL, resultsL, resAllL, resOfL, List.append_nil, List.nil_append, List.cons_append, true_or, or_true, false_or, or_false, false_and, and_false, not_true_eq_false, not_false_eq_true, ne_eq, unL, trim_nil, views_pures, LV.pures, LV.pure, freeze, Nat.reduceDiv, Int.reduceEq, Int.reduceLT, Int.reduceLE, Int.natCast_zero, LV.cells, allocL, List.getElem?_cons_zero, List.getElem?_cons_succ, storeL, spliceL, List.take_zero, List.take_succ_cons, List.drop_zero, List.drop_succ_cons, List.drop_nil, List.take_nil, Nat.le_refl, Nat.reduceMul, List.set_cons_zero, List.set_cons_succ, LV.scalar, List.all_cons, List.all_nil, Nat.lt_add_one, Nat.zero_lt_one, Nat.reduceLT, Nat.lt_irrefl, fillL, List.length_append, foldIntL, kind_beq, pures_int, solids_int, plains_int, unders_int, scalars_int, hgt, hd8, hp, hk8, cc, Nat.zero_add, hpa, w1, bin_rem _ _ _ (show (2 : Int) ≠ 0 by omega), r1, r2, o', v', hT, hpr, w2, ih]
      · have o' : ¬ (((d + 1) % 2 : Nat) : Int) = 0 := by omega
        rw [if_neg (fun q => o q.1)]
        simp only [if_neg (fun q : _ ∧ _ => o q.1)] at hpr
        have ih := ih y hy
        generalize d + 1 = e at *
        simp only [law13_WashRoots.B0, beqT, beqF, exF_seq, exF_region, exF_block, exF_cond, exF_ret, exF_exit, exF_skip, runL, wantL, stepL, evL, LEnv.at, putL, loadFine, loadL, cellsAt, Trk.putNew, Trk.up, Trk.touch, Trk.gives, Trk.calm, Trk.hit, opdsOf, Trk.fresh, LEnv.keep, LEnv.ofFrom, List.map_cons, List.map_nil, nbeq, nble, nblt, ofAV, ofAVs, lenL, bin_add, bin_sub, bin_mul, bin_eql, bin_neq, bin_lss, bin_leq, bin_gtr, bin_geq, natL_nat, natL_zero, natL_one, natL_two, Nat.zero_mul, List.any_cons, List.any_nil, Bool.or_false, Bool.false_or, Bool.true_or, Bool.or_true, Bool.and_true, Bool.true_and, Bool.and_false, Bool.false_and, Bool.not_true, Bool.not_false, Nat.reduceBEq, Nat.reduceEqDiff, decide_true, decide_false, cond_true, cond_false, List.filter_nil, List.filter_cons, Nat.reduceAdd, Nat.reduceLeDiff, reduceCtorEq, List.length_nil, List.length_cons, Nat.mul_one, if_true, if_false, Bool.false_eq_true, eq_self, and_true, true_and, retL, resultsL, resAllL, resOfL, List.append_nil, List.nil_append, List.cons_append, true_or, or_true, false_or, or_false, false_and, and_false, not_true_eq_false, not_false_eq_true, ne_eq, unL, trim_nil, views_pures, LV.pures, LV.pure, freeze, Nat.reduceDiv, Int.reduceEq, Int.reduceLT, Int.reduceLE, Int.natCast_zero, LV.cells, allocL, List.getElem?_cons_zero, List.getElem?_cons_succ, storeL, spliceL, List.take_zero, List.take_succ_cons, List.drop_zero, List.drop_succ_cons, List.drop_nil, List.take_nil, Nat.le_refl, Nat.reduceMul, List.set_cons_zero, List.set_cons_succ, LV.scalar, List.all_cons, List.all_nil, Nat.lt_add_one, Nat.zero_lt_one, Nat.reduceLT, Nat.lt_irrefl, fillL, List.length_append, foldIntL, kind_beq, pures_int, solids_int, plains_int, unders_int, scalars_int, hgt, hd8, hp, hk8, cc, Nat.zero_add, hpa, w1, bin_rem _ _ _ (show (2 : Int) ≠ 0 by omega), r1, r2, o', hT, hpr, w2, ih]
def rootsVis (w8 : List LV) {t : List Nat} (D : Td t) : TVis (List (List Nat)) t.length where
  I := RI w8 t t.length
  vis := rvis t
  f := n_law13_WashRoots_1
  first := []
  cap := RTC
  a := 4
  hI := fun s m Y h => by
    obtain ⟨F, Y0, rfl, hF⟩ := h
    exact ⟨F, Y0 ++ Y, by simp, hF.mono fun i h1 h2 => by rw [List.getElem?_append_left h2]⟩
  hT := fun s m k vs h hk => by
    obtain ⟨F, Y0, rfl, hF⟩ := h
    obtain ⟨Y', e, h1, h2⟩ := hF.trim vs (show 4 ≤ k by omega)
    rw [e]
    rcases h2 with rfl | rfl
    · exact ⟨F, Y0, rfl, h1⟩
    · obtain ⟨j, rfl⟩ : ∃ j, k = j + 7 := ⟨k - 7, by omega⟩
      refine ⟨F, Y0.take j, ?_, h1⟩
      simp
  hn := fun s m h => by obtain ⟨F, Y0, rfl, hF⟩ := h; rfl
  hv := fun s m h => by obtain ⟨F, Y0, rfl, hF⟩ := h; rfl
  hp := fun s m h => by obtain ⟨F, Y0, rfl, hF⟩ := h; rfl
  size := fun s => s.length
  hsz := fun s l => by
    unfold rvis
    cases isHalf t l <;> simp
  hvis := fun s m l b hI hs hT hb hm => RI_vis w8 D s hs m l b hI hT hb hm
theorem tides_roots (w8 : List LV) {t : List Nat} (D : Td t) : ∃ F Y, clF LP n_law13_tides [.int .i64 (t.length : Int), .func n_law13_WashRoots_1 [] RTC] (RTH w8 t 0 (.lst true true 0 0 []) []) = some (.W, .tup [], RTH w8 t (halvesF t).length F Y) ∧ FOk t.length 7 (halvesF t) (RTH w8 t (halvesF t).length F Y) F := by
  have h1 := D.h1
  have h7 := D.h7
  have hle : (perms t.length t.length []).length ≤ 1000000 := Nat.le_trans (perms_len _ _ _) (Nat.le_trans (Nat.pow_le_pow_left h7 _) (Nat.le_trans (Nat.pow_le_pow_right (by omega) h7) (by omega)))
  obtain ⟨m', e, hI, hl⟩ := tides_c h1 h7 (rootsVis w8 D) (RTH w8 t 0 (.lst true true 0 0 []) []) rfl [] (by simpa [rootsVis] using hle) ⟨.lst true true 0 0 [], [], rfl, rfl⟩
  obtain ⟨F, Y, rfl, hF⟩ := hI
  have hs : (perms t.length t.length []).foldl (rootsVis w8 D).vis [] = halvesF t := by
    rw [halvesF_ok]
    exact (rvis_fold t _ []).trans (by simp)
  rw [hs] at hF e
  obtain ⟨Y', e2, h3, _⟩ := hF.trim [.tup []] (Nat.le_refl 4)
  refine ⟨F, Y', ?_, h3⟩
  rw [← e2]
  exact e
end Go.Am.Wash

/-
  What functions of chapter 13 compute, outright 7: the law 'WashRoots' over the list machine.
-/
set_option linter.unusedVariables false
set_option linter.unusedSimpArgs false
set_option maxRecDepth 10000
set_option maxHeartbeats 2000000
namespace Go.Am.Wash
open Go.Am.G

theorem whyV_eq (R : List (List Nat)) : whyV R = ((whyN R : Int), if 0 < whyN R then 0 else 13) := by
  simp only [whyV, whyN, cntN_eq, nbeq]
  by_cases c2 : cnt R 2 % 2 = 1
  · simp [c2]
  · by_cases c4 : cnt R 4 % 2 = 1
    · simp [c2, c4]
    · by_cases c6 : cnt R 6 % 2 = 1
      · simp [c2, c4, c6]
      · simp [c2, c4, c6]
theorem roots_in (ns : List Int) (hl : ns.length = 8) (hb : ∀ n ∈ ns, 0 ≤ n ∧ n < 256) : clF LP n_law13_WashRoots [.agg (ns.map (LV.int .u8))] [] = some (.P, .bool true, []) := by
  obtain ⟨p, bs, e, hp, hb7, hbb⟩ := swell_nat hl hb
  rw [e]
  clear e hb hl
  have hm := fun m => made_c p hp 6 (by omega) (by omega) bs hb7 hbb m
  simp only [show ((6 : Nat) : Int) = 6 from rfl] at hm
  have hk : p % 6 < 6 := Nat.mod_lt _ (by omega)
  obtain ⟨D, hdl⟩ := drawN_td (show 1 ≤ 1 + p % 6 by omega) (show 1 + p % 6 ≤ 7 by omega) bs
  generalize drawN (1 + p % 6) bs = t at *
  have h1 := D.h1
  have h7 := D.h7
  have h6 : t.length ≤ 6 := by omega
  obtain ⟨R, n, K⟩ := known D.T D.h1 D.h7
  have H := halved D.T h1 h6 K.hp
  obtain ⟨hd, hz⟩ := downs D.T h1 h6 K.hp H.n
  have hbl : (bys (p :: bs)).length = 8 := by simp [hb7]
  have hps : LV.pures (bys (p :: bs)) = true := pures_int _ _
  have htk : (bys (p :: bs)).take 8 = bys (p :: bs) := List.take_of_length_le (by omega)
  generalize bys (p :: bs) = w8 at *
  obtain ⟨F, Y, htd, hF⟩ := tides_roots w8 D
  have hkin := fun m => kindsL_c false false 1 D K m
  have hha := fun m => pHalves_c false false D K H D.chk m
  have hwy := fun m => whyP_c false false D K D.chk m
  rw [whyV_eq] at hwy
  have hl2 : (ci t).length = t.length := ci_len t
  have hk8 := kind8 R
  have hsc : (ints (ci (kindL R))).all LV.scalar = true := scalars_int _ _
  have g1 : (RTH w8 t (halvesF t).length F Y)[1]? = some ⟨[IL false false 1 (ci t)], true⟩ := rfl
  have g2 : (RTH w8 t (halvesF t).length F Y)[2]? = some ⟨[.int .i64 ((halvesF t).length : Int)], true⟩ := rfl
  have g3 : (RTH w8 t (halvesF t).length F Y)[3]? = some ⟨[F], true⟩ := rfl
  have gl : 4 ≤ (RTH w8 t (halvesF t).length F Y).length := by simp
  have hsame : ∀ q r, halvesF t = q :: r → q.length < 1000000 → clF LP n_law13_same [IL false true 1 (ci q), F] (RTH w8 t (halvesF t).length F Y ++ [⟨ints (ci (kindL R)), true⟩]) = some (.P, .bool true, RTH w8 t (halvesF t).length F Y ++ [⟨ints (ci (kindL R)), true⟩]) := by
    intro q r hq hql
    rw [hq] at hF
    obtain ⟨b, rfl, hb, hbm⟩ := hF
    rw [← hq] at hbm
    have hqt : q.length = t.length := by
      have hmem : q ∈ halvesF t := by rw [hq]; simp
      rw [halvesF_ok, List.mem_filter] at hmem
      have := (perms_all t.length t.length [] (by simp) q hmem.1).1
      simpa using this
    have hbm2 : (RTH w8 t (halvesF t).length (.sl b 0 t.length t.length 1 1 t.length) Y ++ [⟨ints (ci (kindL R)), true⟩])[b]? = some ⟨ints (ci q), true⟩ := by
      rw [List.getElem?_append_left (List.getElem?_eq_some_iff.1 hbm).1]; exact hbm
    have hv := view_tide hqt hbm2
    refine call_view lp_law13_same rfl (vs := [IL false true 1 (ci q), IL false false 1 (ci q)]) (ids := [b]) ?_ (by simp [LV.pures, LV.pure]) (same_refl _ _ _ _ _ _ (ci q) (by rw [ci_len]; omega) []) rfl
    exact views_snd 32 _ _ _ _ _ hv (by simp [LV.pure]) (by simp [LV.pures, LV.pure])
  have hpure1 : LV.pures [LV.agg w8] = true := by simp only [LV.pures, LV.pure, hps, Bool.and_true]
  have hF0 : F.cells = some [F] := by
    cases hq : halvesF t with
    | nil => rw [hq] at hF; have : F = _ := hF; subst this; rfl
    | cons q r => rw [hq] at hF; obtain ⟨b, rfl, _⟩ := hF; rfl
  have htd : clF LP n_law13_tides [.int .i64 (t.length : Int), .func n_law13_WashRoots_1 [] [.ptr 1 0 1, .ptr 2 0 1, .ptr 3 0 1]] [⟨w8, true⟩, ⟨[IL false false 1 (ci t)], true⟩, ⟨[.int .i64 0], true⟩, ⟨[.lst true true 0 0 []], true⟩] = some (.W, .tup [], RTH w8 t (halvesF t).length F Y) := htd
  generalize RTH w8 t (halvesF t).length F Y = M at *
  have a1 : ∀ A, (M ++ [A])[1]? = some ⟨[IL false false 1 (ci t)], true⟩ := fun A => by rw [List.getElem?_append_left (by omega)]; exact g1
  have a2 : ∀ A, (M ++ [A])[2]? = some ⟨[.int .i64 ((halvesF t).length : Int)], true⟩ := fun A => by rw [List.getElem?_append_left (by omega)]; exact g2
  have a3 : ∀ A, (M ++ [A])[3]? = some ⟨[F], true⟩ := fun A => by rw [List.getElem?_append_left (by omega)]; exact g3
  have aL : ∀ A, (M ++ [A])[M.length]? = some A := fun A => by simp
  have aS : ∀ A B, (M ++ [A]).set M.length B = M ++ [B] := fun A B => by simp
  have hlo := roots_loop D K (M ++ [⟨ints (ci (kindL R)), true⟩]) M.length (a1 _) (aL _) 7 1 0 _ (by omega) (by omega) (by omega) hd
  rw [whyF_eq] at hlo
  simp only [Int.natCast_zero, Int.natCast_one, show ((7 : Nat) : Int) = 7 from rfl] at hlo
  have hwk : (ints (ci (kindL R))).drop 8 = [] := List.drop_eq_nil_of_le (by omega)
  have hwt : (ints (ci (kindL R))).take 8 = ints (ci (kindL R)) := List.take_of_length_le (by omega)
  cases hq : halvesF t with
  | nil =>
    have hhf := fun m => pHalf0_c false false D K H D.chk hq m
    rw [hq] at hz hha a2 hlo g2
    have hz1 : 0 < whyN R := hz.1 rfl
    rw [if_pos hz1] at hwy
    have hz2 : (0 : Int) < (whyN R : Int) := by omega
    generalize ints (ci (kindL R)) = wk at *
    generalize whyN R = wn at *
    generalize ci t = tt at *
    simp only [List.length_nil, Int.natCast_zero] at hha a2 hlo g2
    refine call_P lp_law13_WashRoots rfl hpure1 (m1 := M ++ [⟨wk, true⟩]) ?_ rfl []
    simp only [law13_WashRoots, law13_WashRoots.B, beqT, beqF, exF_seq, exF_region, exF_block, exF_cond, exF_ret, exF_exit, exF_skip, runL, wantL, stepL, evL, LEnv.at, putL, loadFine, loadL, cellsAt, Trk.putNew, Trk.up, Trk.touch, Trk.gives, Trk.calm, Trk.hit, opdsOf, Trk.fresh, LEnv.keep, LEnv.ofFrom, List.map_cons, List.map_nil, nbeq, nble, nblt, ofAV, ofAVs, lenL, bin_add, bin_sub, bin_mul, bin_eql, bin_neq, bin_lss, bin_leq, bin_gtr, bin_geq, natL_nat, natL_zero, natL_one, natL_two, Nat.zero_mul, List.any_cons, List.any_nil, Bool.or_false, Bool.false_or, Bool.true_or, Bool.or_true, Bool.and_true, Bool.true_and, Bool.and_false, Bool.false_and, Bool.not_true, Bool.not_false, Nat.reduceBEq, Nat.reduceEqDiff, decide_true, decide_false, cond_true, cond_false, List.filter_nil, List.filter_cons, Nat.reduceAdd, Nat.reduceLeDiff, reduceCtorEq, List.length_nil, List.length_cons, Nat.mul_one, if_true, if_false, Bool.false_eq_true, eq_self, and_true, true_and, retL, resultsL, resAllL, resOfL, List.append_nil, List.nil_append, List.cons_append, true_or, or_true, false_or, or_false, false_and, and_false, not_true_eq_false, not_false_eq_true, ne_eq, unL, trim_nil, views_pures, LV.pures, LV.pure, freeze, Nat.reduceDiv, Int.reduceEq, Int.reduceLT, Int.reduceLE, Int.natCast_zero, LV.cells, allocL, List.getElem?_cons_zero, List.getElem?_cons_succ, storeL, spliceL, List.take_zero, List.take_succ_cons, List.drop_zero, List.drop_succ_cons, List.drop_nil, List.take_nil, Nat.le_refl, Nat.reduceMul, List.set_cons_zero, List.set_cons_succ, LV.scalar, List.all_cons, List.all_nil, Nat.lt_add_one, Nat.zero_lt_one, Nat.reduceLT, Nat.lt_irrefl, fillL, List.length_append, foldIntL, kind_beq, pures_int, solids_int, plains_int, unders_int, scalars_int, hbl, htk, hm, hl2, htd, g1, hkin, ofAVs, ofAV, a1, a2, a3, aL, aS, hk8, hsc, hwk, hlo, hhf, hha, hwy, hz2, Bool.xor_self, works_c]
  | cons q r =>
    have hhf := fun m => pHalf1_c false false D K H D.chk hq m
    have hqt : q.length = t.length := by
      have hmem : q ∈ halvesF t := by rw [hq]; simp
      rw [halvesF_ok, List.mem_filter] at hmem
      have := (perms_all t.length t.length [] (by simp) q hmem.1).1
      simpa using this
    have hsame := hsame q r hq (by omega)
    have hne : ¬ (((q :: r).length : Nat) : Int) = 0 := by simp; omega
    rw [hq] at hz hha a2 hlo g2
    have hz1 : whyN R = 0 := by
      have : ¬ 0 < whyN R := fun c => by have := hz.2 c; simp at this
      omega
    rw [hz1] at hwy hlo
    simp only [Nat.lt_irrefl, if_false, Int.natCast_zero] at hwy hlo
    generalize (q :: r).length = z at *
    generalize ints (ci (kindL R)) = wk at *
    generalize ci t = tt at *
    generalize ci q = qq at *
    simp only [IL] at hhf hsame
    refine call_P lp_law13_WashRoots rfl hpure1 (m1 := M ++ [⟨wk, true⟩]) ?_ rfl []
    simp only [law13_WashRoots, law13_WashRoots.B, beqT, beqF, exF_seq, exF_region, exF_block, exF_cond, exF_ret, exF_exit, exF_skip, runL, wantL, stepL, evL, LEnv.at, putL, loadFine, loadL, cellsAt, Trk.putNew, Trk.up, Trk.touch, Trk.gives, Trk.calm, Trk.hit, opdsOf, Trk.fresh, LEnv.keep, LEnv.ofFrom, List.map_cons, List.map_nil, nbeq, nble, nblt, ofAV, ofAVs, lenL, bin_add, bin_sub, bin_mul, bin_eql, bin_neq, bin_lss, bin_leq, bin_gtr, bin_geq, natL_nat, natL_zero, natL_one, natL_two, Nat.zero_mul, List.any_cons, List.any_nil, Bool.or_false, Bool.false_or, Bool.true_or, Bool.or_true, Bool.and_true, Bool.true_and, Bool.and_false, Bool.false_and, Bool.not_true, Bool.not_false, Nat.reduceBEq, Nat.reduceEqDiff, decide_true, decide_false, cond_true, cond_false, List.filter_nil, List.filter_cons, Nat.reduceAdd, Nat.reduceLeDiff, reduceCtorEq, List.length_nil, List.length_cons, Nat.mul_one, if_true, if_false, Bool.false_eq_true, eq_self, and_true, true_and, retL, resultsL, resAllL, resOfL, List.append_nil, List.nil_append, List.cons_append, true_or, or_true, false_or, or_false, false_and, and_false, not_true_eq_false, not_false_eq_true, ne_eq, unL, trim_nil, views_pures, LV.pures, LV.pure, freeze, Nat.reduceDiv, Int.reduceEq, Int.reduceLT, Int.reduceLE, Int.natCast_zero, LV.cells, allocL, List.getElem?_cons_zero, List.getElem?_cons_succ, storeL, spliceL, List.take_zero, List.take_succ_cons, List.drop_zero, List.drop_succ_cons, List.drop_nil, List.take_nil, Nat.le_refl, Nat.reduceMul, List.set_cons_zero, List.set_cons_succ, LV.scalar, List.all_cons, List.all_nil, Nat.lt_add_one, Nat.zero_lt_one, Nat.reduceLT, Nat.lt_irrefl, fillL, List.length_append, foldIntL, kind_beq, pures_int, solids_int, plains_int, unders_int, scalars_int, hbl, htk, hm, hl2, htd, g1, hkin, ofAVs, ofAV, a1, a2, a3, aL, aS, hk8, hsc, hwk, hlo, hhf, hha, hwy, hne, hsame, Bool.xor_self, works_c]
end Go.Am.Wash


