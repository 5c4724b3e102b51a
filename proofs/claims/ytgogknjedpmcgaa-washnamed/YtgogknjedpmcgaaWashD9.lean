/-
  What functions of chapter 13 compute, outright 9: the law 'WashExchanged'.
-/
import Derived.Test.YtgogknjedpmcgaaWashP11
import Derived.Test.YtgogknjedpmcgaaWashQ9
set_option linter.unusedVariables false
set_option linter.unusedSimpArgs false
set_option maxRecDepth 10000
set_option maxHeartbeats 2000000
namespace Go.Am.Wash
open Go.Am.G

theorem nodup_map (f : Nat → Nat) : ∀ l : List Nat, l.Nodup → (∀ x ∈ l, ∀ y ∈ l, f x = f y → x = y) → (l.map f).Nodup
  | [], _, _ => List.nodup_nil
  | a :: r, h, hi => by
    obtain ⟨h1, h2⟩ := List.nodup_cons.1 h
    rw [List.map_cons, List.nodup_cons]
    refine ⟨fun c => ?_, nodup_map f r h2 fun x hx y hy => hi x (by simp [hx]) y (by simp [hy])⟩
    obtain ⟨y, hy, e⟩ := List.mem_map.1 c
    have := hi y (by simp [hy]) a (by simp) e
    subst this
    exact h1 hy
theorem td_comp {a b : List Nat} (A : Td a) (B : Td b) (h : a.length = b.length) : Td (thenN a b) := by
  have hl := thenN_len a b
  refine ⟨⟨rfl, ?_, ?_⟩, by rw [hl]; exact A.h1, by rw [hl]; exact A.h7⟩
  · refine nodup_map (nth b) a A.T.2.1 fun x hx y hy e => ?_
    exact it_inj B.T (by rw [← h]; exact A.lt x hx) (by rw [← h]; exact A.lt y hy) 1 e
  · intro x hx
    rw [hl, h]
    exact thenN_lt B.lt (by have := B.h1; omega) x hx
theorem isFriend_iff (t l : List Nat) : isFriend t l = decide (thenN t l = thenN l t) := by
  rw [isFriend, ← thenN_mapN, ← thenN_mapN, Bool.eq_iff_iff, decide_eq_true_eq]
  constructor
  · intro h; exact (eqN_ok _ _ h).symm
  · intro h; rw [h]; exact (eqN_all _ _ rfl).2 rfl
theorem oddB_eq (R : List (List Nat)) : oddB R = decide (oddN R = 1) := by
  unfold oddB oddN
  simp only [cntN_eq]

/-! ### What goes through all tides -/
abbrev XTC : List LV := [.ptr 2 0 1, .ptr 3 0 1]
abbrev XTB (n : Nat) : LMem := [⟨[.int .i64 (n : Int)], true⟩, ⟨[.func n_law13_WashExchanged_1 [] XTC], true⟩, ⟨[.func n_law13_tides_1 [] [.ptr 4 0 1, .ptr 5 0 1, .ptr 6 0 1]], true⟩]
abbrev XTH (w8 w7 : List LV) (t : List Nat) (c : Nat) (Y : LMem) : LMem := ⟨w8, true⟩ :: ⟨w7, true⟩ :: ⟨[IL false false 1 (ci t)], true⟩ :: ⟨[.int .i64 (c : Int)], true⟩ :: Y
theorem XT_trim (w8 w7 : List LV) (t : List Nat) (c : Nat) (Y : LMem) (k : Nat) (vs : List LV) (hk : 4 ≤ k) : trim k vs (XTH w8 w7 t c Y) = XTH w8 w7 t c Y ∨ trim k vs (XTH w8 w7 t c Y) = XTH w8 w7 t c (Y.take (k - 4)) := by
  unfold Go.Am.trim
  cases (LV.unders k vs && belowM k ((XTH w8 w7 t c Y).take k))
  · exact .inl rfl
  · right
    rw [cond_true]
    obtain ⟨j, rfl⟩ : ∃ j, k = j + 4 := ⟨k - 4, by omega⟩
    simp
def XI (w8 w7 : List LV) (t : List Nat) (n : Nat) (s : Nat) (m : LMem) : Prop := ∃ Y, m = XTH w8 w7 t s (XTB n ++ Y)
def xvis (t : List Nat) (s : Nat) (l : List Nat) : Nat := if isFriend t l then s + 1 else s
theorem xvis_fold (t : List Nat) : ∀ (L : List (List Nat)) (s : Nat), L.foldl (xvis t) s = s + (L.filter (isFriend t)).length
  | [], s => by simp
  | x :: r, s => by
    rw [List.foldl_cons, xvis_fold t r, xvis, List.filter_cons]
    cases isFriend t x
    · simp
    · simp; omega
theorem XI_vis (w8 w7 : List LV) {t : List Nat} (D : Td t) (s : Nat) (hs : s < 1000000) (m : LMem) (l : List Nat) (b : Nat) (hI : XI w8 w7 t t.length s m) (hT : Tide t.length l) (hb : 7 ≤ b) (hm : m[b]? = some ⟨ints (ci l), true⟩) :
    ∃ m', clF LP n_law13_WashExchanged_1 ([] ++ ([.sl b 0 t.length t.length 1 1 t.length] ++ XTC)) m = some (.W, .tup [], m') ∧ XI w8 w7 t t.length (xvis t s l) m' ∧ m.length ≤ m'.length ∧ ∀ i, 7 ≤ i → i < m.length → m'[i]? = m[i]? := by
  have h7 := D.h7
  have h1 := D.h1
  obtain ⟨Y, rfl⟩ := hI
  have hv := view_tide hT.1 hm
  have hll := hT.1
  have v1 : views (XTH w8 w7 t s (XTB t.length ++ Y)) [IL false false 1 (ci t), .sl b 0 t.length t.length 1 1 t.length] = some ([IL false false 1 (ci t), IL false false 1 (ci l)], [b]) := views_snd 32 _ _ _ _ _ hv (by simp [LV.pure]) (by simp [LV.pures, LV.pure])
  have v2 : views (XTH w8 w7 t s (XTB t.length ++ Y)) [.sl b 0 t.length t.length 1 1 t.length, IL false false 1 (ci t)] = some ([IL false false 1 (ci l), IL false false 1 (ci t)], [b]) := views_two 32 _ _ _ _ _ hv (by simp [LV.pure]) (by simp [LV.pures, LV.pure])
  have t1 := thenL_m false false false false 1 1 t l v1 (by intro x hx; rw [hll]; exact D.lt x hx) (by omega)
  have t2 := thenL_m false false false false 1 1 l t v2 (by intro x hx; exact hT.2.2 x hx) (by omega)
  have hsm := fun a b c a' b' c' m => same_c a b a' b' c c' (thenN t l) (thenN l t) (by rw [thenN_len]; omega) (by rw [thenN_len]; omega) m
  rw [← isFriend_iff] at hsm
  have hsm : ∀ m, clF LP n_law13_same [RLn (thenN t l), RLn (thenN l t)] m = some (.P, .bool (isFriend t l), m) := fun m => hsm _ _ _ _ _ _ m
  have keep : ∀ (m m' : LMem), m'.length = m.length → trim m.length [.tup []] m' = m' := fun m m' h => trim_le _ _ _ (by omega)
  have hst : ∀ y : Nat, ¬ (y + 1 + 1 + 1 + 1 + 1 + 1 + 1 ≤ 2) := by intros; omega
  generalize RLn (thenN t l) = X1 at *
  generalize RLn (thenN l t) = X2 at *
  rw [xvis]
  cases c : isFriend t l
  · rw [c] at hsm
    simp only [Bool.false_eq_true, if_false]
    refine ⟨_, ?_, ⟨Y, rfl⟩, Nat.le_refl _, fun _ _ _ => rfl⟩
    have k := keep (XTH w8 w7 t s (XTB t.length ++ Y)) _ rfl
    conv => rhs; rw [← k]
    refine call_W lp_law13_WashExchanged_1 rfl ?_
    simp only [List.cons_append, List.nil_append, XTH, XTB, XTC] at t1 t2 ⊢
    simp only [law13_WashExchanged_1, law13_WashExchanged_1.B, beqT, beqF, exF_seq, exF_region, exF_block, exF_cond, exF_ret, exF_exit, exF_skip, runL, wantL, stepL, evL, LEnv.at, putL, loadFine, loadL, cellsAt, Trk.putNew, Trk.up, Trk.touch, Trk.gives, Trk.calm, Trk.hit, opdsOf, Trk.fresh, LEnv.keep, LEnv.ofFrom, List.map_cons, List.map_nil, nbeq, nble, nblt, ofAV, ofAVs, lenL, bin_add, bin_sub, bin_mul, bin_eql, bin_neq, bin_lss, bin_leq, bin_gtr, bin_geq, natL_nat, natL_zero, natL_one, natL_two, Nat.zero_mul, List.any_cons, List.any_nil, Bool.or_false, Bool.false_or, Bool.true_or, Bool.or_true, Bool.and_true, Bool.true_and, Bool.and_false, Bool.false_and, Bool.not_true, Bool.not_false, Nat.reduceBEq, Nat.reduceEqDiff, decide_true, decide_false, cond_true, cond_false, List.filter_nil, List.filter_cons, Nat.reduceAdd, Nat.reduceLeDiff, reduceCtorEq, List.length_nil, List.length_cons, Nat.mul_one, if_true, if_false, Bool.false_eq_true, eq_self, and_true, true_and, retL, resultsL, resAllL, resOfL, List.append_nil, List.nil_append, List.cons_append, true_or, or_true, false_or, or_false, false_and, and_false, not_true_eq_false, not_false_eq_true, ne_eq, unL, trim_nil, views_pures, LV.pures, LV.pure, freeze, Nat.reduceDiv, Int.reduceEq, Int.reduceLT, Int.reduceLE, Int.natCast_zero, LV.cells, allocL, List.getElem?_cons_zero, List.getElem?_cons_succ, storeL, spliceL, List.take_zero, List.take_succ_cons, List.drop_zero, List.drop_succ_cons, List.drop_nil, List.take_nil, Nat.le_refl, Nat.reduceMul, List.set_cons_zero, List.set_cons_succ, LV.scalar, List.all_cons, List.all_nil, Nat.lt_add_one, Nat.zero_lt_one, Nat.reduceLT, Nat.lt_irrefl, fillL, List.length_append, foldIntL, kind_beq, pures_int, solids_int, plains_int, unders_int, scalars_int, t1, t2, hst, hsm]
  · rw [c] at hsm
    simp only [if_true]
    have hw := wrap_succ (show s + 1 < 9223372036854775808 by omega)
    refine ⟨XTH w8 w7 t (s + 1) (XTB t.length ++ Y), ?_, ⟨Y, rfl⟩, by simp, fun i h1 h2 => ?_⟩
    · have k := keep (XTH w8 w7 t s (XTB t.length ++ Y)) (XTH w8 w7 t (s + 1) (XTB t.length ++ Y)) (by simp)
      conv => rhs; rw [← k]
      refine call_W lp_law13_WashExchanged_1 rfl ?_
      simp only [List.cons_append, List.nil_append, XTH, XTB, XTC] at t1 t2 ⊢
      simp only [law13_WashExchanged_1, law13_WashExchanged_1.B, beqT, beqF, exF_seq, exF_region, exF_block, exF_cond, exF_ret, exF_exit, exF_skip, runL, wantL, stepL, evL, LEnv.at, putL, loadFine, loadL, cellsAt, Trk.putNew, Trk.up, Trk.touch, Trk.gives, Trk.calm, Trk.hit, opdsOf, Trk.fresh, LEnv.keep, LEnv.ofFrom, List.map_cons, List.map_nil, nbeq, nble, nblt, ofAV, ofAVs, lenL, bin_add, bin_sub, bin_mul, bin_eql, bin_neq, bin_lss, bin_leq, bin_gtr, bin_geq, natL_nat, natL_zero, natL_one, natL_two, Nat.zero_mul, List.any_cons, List.any_nil, Bool.or_false, Bool.false_or, Bool.true_or, Bool.or_true, Bool.and_true, Bool.true_and, Bool.and_false, Bool.false_and, Bool.not_true, Bool.not_false, Nat.reduceBEq, Nat.reduceEqDiff, decide_true, decide_false, cond_true, cond_false, List.filter_nil, List.filter_cons, Nat.reduceAdd, Nat.reduceLeDiff, reduceCtorEq, List.length_nil, List.length_cons, Nat.mul_one, if_true, if_false, Bool.false_eq_true, eq_self, and_true, true_and, retL, resultsL, resAllL, resOfL, List.append_nil, List.nil_append, List.cons_append, true_or, or_true, false_or, or_false, false_and, and_false, not_true_eq_false, not_false_eq_true, ne_eq, unL, trim_nil, views_pures, LV.pures, LV.pure, freeze, Nat.reduceDiv, Int.reduceEq, Int.reduceLT, Int.reduceLE, Int.natCast_zero, LV.cells, allocL, List.getElem?_cons_zero, List.getElem?_cons_succ, storeL, spliceL, List.take_zero, List.take_succ_cons, List.drop_zero, List.drop_succ_cons, List.drop_nil, List.take_nil, Nat.le_refl, Nat.reduceMul, List.set_cons_zero, List.set_cons_succ, LV.scalar, List.all_cons, List.all_nil, Nat.lt_add_one, Nat.zero_lt_one, Nat.reduceLT, Nat.lt_irrefl, fillL, List.length_append, foldIntL, kind_beq, pures_int, solids_int, plains_int, unders_int, scalars_int, t1, t2, hst, hsm, hw]
    · obtain ⟨j, rfl⟩ : ∃ j, i = j + 4 := ⟨i - 4, by omega⟩
      simp
def exchVis (w8 w7 : List LV) {t : List Nat} (D : Td t) : TVis Nat t.length where
  I := XI w8 w7 t t.length
  vis := xvis t
  f := n_law13_WashExchanged_1
  first := []
  cap := XTC
  a := 4
  hI := fun s m Y h => by
    obtain ⟨Y0, rfl⟩ := h
    exact ⟨Y0 ++ Y, by simp⟩
  hT := fun s m k vs h hk => by
    obtain ⟨Y0, rfl⟩ := h
    rcases XT_trim w8 w7 t s (XTB t.length ++ Y0) k vs (by omega) with e | e
    · rw [e]; exact ⟨Y0, rfl⟩
    · rw [e]
      obtain ⟨j, rfl⟩ : ∃ j, k = j + 7 := ⟨k - 7, by omega⟩
      exact ⟨Y0.take j, by simp⟩
  hn := fun s m h => by obtain ⟨Y0, rfl⟩ := h; rfl
  hv := fun s m h => by obtain ⟨Y0, rfl⟩ := h; rfl
  hp := fun s m h => by obtain ⟨Y0, rfl⟩ := h; rfl
  size := fun s => s
  hsz := fun s l => by
    unfold xvis
    cases isFriend t l <;> simp
  hvis := fun s m l b hI hs hT hb hm => XI_vis w8 w7 D s hs m l b hI hT hb hm
theorem tides_exch (w8 w7 : List LV) {t : List Nat} (D : Td t) : ∃ Y, clF LP n_law13_tides [.int .i64 (t.length : Int), .func n_law13_WashExchanged_1 [] XTC] (XTH w8 w7 t 0 []) = some (.W, .tup [], XTH w8 w7 t (friendsF t).length Y) := by
  have h1 := D.h1
  have h7 := D.h7
  have hle : (perms t.length t.length []).length ≤ 1000000 := Nat.le_trans (perms_len _ _ _) (Nat.le_trans (Nat.pow_le_pow_left h7 _) (Nat.le_trans (Nat.pow_le_pow_right (by omega) h7) (by omega)))
  obtain ⟨m', e, hI, hl⟩ := tides_c h1 h7 (exchVis w8 w7 D) (XTH w8 w7 t 0 []) rfl 0 (by simpa [exchVis] using hle) ⟨[], rfl⟩
  obtain ⟨Y, rfl⟩ := hI
  have hs : (perms t.length t.length []).foldl (exchVis w8 w7 D).vis 0 = (friendsF t).length := by
    rw [friendsF_ok]
    exact (xvis_fold t _ 0).trans (by simp)
  rw [hs] at e
  rcases XT_trim w8 w7 t (friendsF t).length (XTB t.length ++ Y) 4 [.tup []] (Nat.le_refl 4) with e2 | e2
  · exact ⟨XTB t.length ++ Y, by rw [← e2]; exact e⟩
  · exact ⟨(XTB t.length ++ Y).take (4 - 4), by rw [← e2]; exact e⟩

/-! ### Pairs that are carried past one another -/
theorem turn_inner {t : List Nat} (h7 : t.length ≤ 7) (M : LMem) (hM : M[2]? = some ⟨[IL false false 1 (ci t)], true⟩) (i : Nat) (hi : i < t.length) (v8 v10 v12 v13 v14 v15 v16 v17 v18 : LV) (B : Nat) (hB : B ≤ 100000) (d : Nat) : ∀ (k c : Nat), k + d = i → c ≤ B + k →
    exF LP law13_WashExchanged.L0 [(5, .ptr 2 0 1), (8, v8), (10, v10), (12, v12), (13, v13), (14, v14), (15, v15), (16, v16), (17, v17), (18, v18), (19, .int .i64 (c : Int)), (20, .int .i64 (i : Int)), (104, .int .i64 (t.length : Int)), (105, .int .i64 (i : Int)), (108, .int .i64 (i : Int)), (109, .int .i64 (k : Int))] M =
      some (.exit 2, [(5, .ptr 2 0 1), (8, v8), (10, v10), (12, v12), (13, v13), (14, v14), (15, v15), (16, v16), (17, v17), (18, v18), (19, .int .i64 (invI t (nth t i) d k c : Int)), (104, .int .i64 (t.length : Int)), (105, .int .i64 (i : Int))], M) ∧ invI t (nth t i) d k c ≤ B + i := by
  have hl1 := ci_len t
  have ci' : ((ci t).map (LV.int .i64))[i]? = some (.int .i64 ((nth t i : Nat) : Int)) := by rw [ci_map, nat_at _ _ _ hi, nth_at t i hi]
  induction d with
  | zero =>
    intro k c hk hc
    obtain rfl : k = i := by omega
    refine ⟨?_, by simpa [invI] using hc⟩
    rw [law13_WashExchanged.L0_eq, invI]
    simp only [law13_WashExchanged.B0, beqT, beqF, exF_seq, exF_region, exF_block, exF_cond, exF_ret, exF_exit, exF_skip, runL, wantL, stepL, evL, LEnv.at, putL, loadFine, loadL, cellsAt, Trk.putNew, Trk.up, Trk.touch, Trk.gives, Trk.calm, Trk.hit, opdsOf, Trk.fresh, LEnv.keep, LEnv.ofFrom, List.map_cons, List.map_nil, nbeq, nble, nblt, ofAV, ofAVs, lenL, bin_add, bin_sub, bin_mul, bin_eql, bin_neq, bin_lss, bin_leq, bin_gtr, bin_geq, natL_nat, natL_zero, natL_one, natL_two, Nat.zero_mul, List.any_cons, List.any_nil, Bool.or_false, Bool.false_or, Bool.true_or, Bool.or_true, Bool.and_true, Bool.true_and, Bool.and_false, Bool.false_and, Bool.not_true, Bool.not_false, Nat.reduceBEq, Nat.reduceEqDiff, decide_true, decide_false, cond_true, cond_false, List.filter_nil, List.filter_cons, Nat.reduceAdd, Nat.reduceLeDiff, reduceCtorEq, List.length_nil, List.length_cons, Nat.mul_one, if_true, if_false, Bool.false_eq_true, eq_self, and_true, true_and, retL, resultsL, resAllL, resOfL, List.append_nil, List.nil_append, List.cons_append, true_or, or_true, false_or, or_false, false_and, and_false, not_true_eq_false, not_false_eq_true, ne_eq, unL, trim_nil, views_pures, LV.pures, LV.pure, freeze, Nat.reduceDiv, Int.reduceEq, Int.reduceLT, Int.reduceLE, Int.natCast_zero, LV.cells, allocL, List.getElem?_cons_zero, List.getElem?_cons_succ, storeL, spliceL, List.take_zero, List.take_succ_cons, List.drop_zero, List.drop_succ_cons, List.drop_nil, List.take_nil, Nat.le_refl, Nat.reduceMul, List.set_cons_zero, List.set_cons_succ, LV.scalar, List.all_cons, List.all_nil, Nat.lt_add_one, Nat.zero_lt_one, Nat.reduceLT, Nat.lt_irrefl, fillL, List.length_append, foldIntL, kind_beq, pures_int, solids_int, plains_int, unders_int, scalars_int, Int.lt_irrefl]
  | succ d ih =>
    intro k c hk hc
    have hki : k < t.length := by omega
    have ck : ((ci t).map (LV.int .i64))[k]? = some (.int .i64 ((nth t k : Nat) : Int)) := by rw [ci_map, nat_at _ _ _ hki, nth_at t k hki]
    rw [invI]
    have hws := wrap_succ (show k + 1 < 9223372036854775808 by omega)
    have hwc := wrap_succ (show c + 1 < 9223372036854775808 by omega)
    have hge : ¬ (M.length ≤ 2) := by
      have := (List.getElem?_eq_some_iff.1 hM).1
      omega
    cases e : Nat.blt (nth t i) (nth t k)
    · have e' : ¬ ((nth t i : Nat) : Int) < ((nth t k : Nat) : Int) := by
        have : ¬ nth t i < nth t k := fun q => by rw [show Nat.blt (nth t i) (nth t k) = true by rw [nblt]; simpa using q] at e; cases e
        omega
      obtain ⟨ih1, ih2⟩ := ih (k + 1) c (by omega) (by omega)
      rw [cond_false]
      refine ⟨?_, ih2⟩
      generalize invI t (nth t i) d (k + 1) c = z at *
      generalize nth t i = x at *
      generalize nth t k = y at *
      generalize ci t = tt at *
      rw [law13_WashExchanged.L0_eq]
      simp only [law13_WashExchanged.B0, beqT, beqF, exF_seq, exF_region, exF_block, exF_cond, exF_ret, exF_exit, exF_skip, runL, wantL, stepL, evL, LEnv.at, putL, loadFine, loadL, cellsAt, Trk.putNew, Trk.up, Trk.touch, Trk.gives, Trk.calm, Trk.hit, opdsOf, Trk.fresh, LEnv.keep, LEnv.ofFrom, List.map_cons, List.map_nil, nbeq, nble, nblt, ofAV, ofAVs, lenL, bin_add, bin_sub, bin_mul, bin_eql, bin_neq, bin_lss, bin_leq, bin_gtr, bin_geq, natL_nat, natL_zero, natL_one, natL_two, Nat.zero_mul, List.any_cons, List.any_nil, Bool.or_false, Bool.false_or, Bool.true_or, Bool.or_true, Bool.and_true, Bool.true_and, Bool.and_false, Bool.false_and, Bool.not_true, Bool.not_false, Nat.reduceBEq, Nat.reduceEqDiff, decide_true, decide_false, cond_true, cond_false, List.filter_nil, List.filter_cons, Nat.reduceAdd, Nat.reduceLeDiff, reduceCtorEq, List.length_nil, List.length_cons, Nat.mul_one, if_true, if_false, Bool.false_eq_true, eq_self, and_true, true_and, retL, resultsL, resAllL, resOfL, List.append_nil, List.nil_append, List.cons_append, true_or, or_true, false_or, or_false, false_and, and_false, not_true_eq_false, not_false_eq_true, ne_eq, unL, trim_nil, views_pures, LV.pures, LV.pure, freeze, Nat.reduceDiv, Int.reduceEq, Int.reduceLT, Int.reduceLE, Int.natCast_zero, LV.cells, allocL, List.getElem?_cons_zero, List.getElem?_cons_succ, storeL, spliceL, List.take_zero, List.take_succ_cons, List.drop_zero, List.drop_succ_cons, List.drop_nil, List.take_nil, Nat.le_refl, Nat.reduceMul, List.set_cons_zero, List.set_cons_succ, LV.scalar, List.all_cons, List.all_nil, Nat.lt_add_one, Nat.zero_lt_one, Nat.reduceLT, Nat.lt_irrefl, fillL, List.length_append, foldIntL, kind_beq, pures_int, solids_int, plains_int, unders_int, scalars_int, show ((k : Int) < (i : Int)) by omega, hM, hge, hl1, hi, hki, ci', ck, e', hws, ih1]
    · have e' : ((nth t i : Nat) : Int) < ((nth t k : Nat) : Int) := by
        have := blt_of e
        omega
      obtain ⟨ih1, ih2⟩ := ih (k + 1) (c + 1) (by omega) (by omega)
      rw [cond_true]
      refine ⟨?_, ih2⟩
      generalize invI t (nth t i) d (k + 1) (c + 1) = z at *
      generalize nth t i = x at *
      generalize nth t k = y at *
      generalize ci t = tt at *
      rw [law13_WashExchanged.L0_eq]
      simp only [law13_WashExchanged.B0, beqT, beqF, exF_seq, exF_region, exF_block, exF_cond, exF_ret, exF_exit, exF_skip, runL, wantL, stepL, evL, LEnv.at, putL, loadFine, loadL, cellsAt, Trk.putNew, Trk.up, Trk.touch, Trk.gives, Trk.calm, Trk.hit, opdsOf, Trk.fresh, LEnv.keep, LEnv.ofFrom, List.map_cons, List.map_nil, nbeq, nble, nblt, ofAV, ofAVs, lenL, bin_add, bin_sub, bin_mul, bin_eql, bin_neq, bin_lss, bin_leq, bin_gtr, bin_geq, natL_nat, natL_zero, natL_one, natL_two, Nat.zero_mul, List.any_cons, List.any_nil, Bool.or_false, Bool.false_or, Bool.true_or, Bool.or_true, Bool.and_true, Bool.true_and, Bool.and_false, Bool.false_and, Bool.not_true, Bool.not_false, Nat.reduceBEq, Nat.reduceEqDiff, decide_true, decide_false, cond_true, cond_false, List.filter_nil, List.filter_cons, Nat.reduceAdd, Nat.reduceLeDiff, reduceCtorEq, List.length_nil, List.length_cons, Nat.mul_one, if_true, if_false, Bool.false_eq_true, eq_self, and_true, true_and, retL, resultsL, resAllL, resOfL, List.append_nil, List.nil_append, List.cons_append, true_or, or_true, false_or, or_false, false_and, and_false, not_true_eq_false, not_false_eq_true, ne_eq, unL, trim_nil, views_pures, LV.pures, LV.pure, freeze, Nat.reduceDiv, Int.reduceEq, Int.reduceLT, Int.reduceLE, Int.natCast_zero, LV.cells, allocL, List.getElem?_cons_zero, List.getElem?_cons_succ, storeL, spliceL, List.take_zero, List.take_succ_cons, List.drop_zero, List.drop_succ_cons, List.drop_nil, List.take_nil, Nat.le_refl, Nat.reduceMul, List.set_cons_zero, List.set_cons_succ, LV.scalar, List.all_cons, List.all_nil, Nat.lt_add_one, Nat.zero_lt_one, Nat.reduceLT, Nat.lt_irrefl, fillL, List.length_append, foldIntL, kind_beq, pures_int, solids_int, plains_int, unders_int, scalars_int, show ((k : Int) < (i : Int)) by omega, hM, hge, hl1, hi, hki, ci', ck, e', hws, hwc, ih1]
theorem turn_outer {t : List Nat} (h7 : t.length ≤ 7) (M : LMem) (hM : M[2]? = some ⟨[IL false false 1 (ci t)], true⟩) (v8 v10 v12 v13 v14 v15 v16 v17 v18 : LV) (d : Nat) : ∀ (i c : Nat), i + d = t.length → c ≤ 10 * i →
    exF LP law13_WashExchanged.L1 [(5, .ptr 2 0 1), (8, v8), (10, v10), (12, v12), (13, v13), (14, v14), (15, v15), (16, v16), (17, v17), (18, v18), (19, .int .i64 (c : Int)), (104, .int .i64 (t.length : Int)), (105, .int .i64 (i : Int))] M =
      some (.exit 0, [(8, v8), (10, v10), (12, v12), (13, v13), (14, v14), (15, v15), (16, v16), (17, v17), (18, v18), (19, .int .i64 (invO t d i c : Int))], M) ∧ invO t d i c ≤ 10 * t.length := by
  induction d with
  | zero =>
    intro i c hi hc
    obtain rfl : i = t.length := by omega
    refine ⟨?_, by simpa [invO] using hc⟩
    rw [law13_WashExchanged.L1_eq, invO]
    simp only [law13_WashExchanged.B1, beqT, beqF, exF_seq, exF_region, exF_block, exF_cond, exF_ret, exF_exit, exF_skip, runL, wantL, stepL, evL, LEnv.at, putL, loadFine, loadL, cellsAt, Trk.putNew, Trk.up, Trk.touch, Trk.gives, Trk.calm, Trk.hit, opdsOf, Trk.fresh, LEnv.keep, LEnv.ofFrom, List.map_cons, List.map_nil, nbeq, nble, nblt, ofAV, ofAVs, lenL, bin_add, bin_sub, bin_mul, bin_eql, bin_neq, bin_lss, bin_leq, bin_gtr, bin_geq, natL_nat, natL_zero, natL_one, natL_two, Nat.zero_mul, List.any_cons, List.any_nil, Bool.or_false, Bool.false_or, Bool.true_or, Bool.or_true, Bool.and_true, Bool.true_and, Bool.and_false, Bool.false_and, Bool.not_true, Bool.not_false, Nat.reduceBEq, Nat.reduceEqDiff, decide_true, decide_false, cond_true, cond_false, List.filter_nil, List.filter_cons, Nat.reduceAdd, Nat.reduceLeDiff, reduceCtorEq, List.length_nil, List.length_cons, Nat.mul_one, if_true, if_false, Bool.false_eq_true, eq_self, and_true, true_and, retL, resultsL, resAllL, resOfL, List.append_nil, List.nil_append, List.cons_append, true_or, or_true, false_or, or_false, false_and, and_false, not_true_eq_false, not_false_eq_true, ne_eq, unL, trim_nil, views_pures, LV.pures, LV.pure, freeze, Nat.reduceDiv, Int.reduceEq, Int.reduceLT, Int.reduceLE, Int.natCast_zero, LV.cells, allocL, List.getElem?_cons_zero, List.getElem?_cons_succ, storeL, spliceL, List.take_zero, List.take_succ_cons, List.drop_zero, List.drop_succ_cons, List.drop_nil, List.take_nil, Nat.le_refl, Nat.reduceMul, List.set_cons_zero, List.set_cons_succ, LV.scalar, List.all_cons, List.all_nil, Nat.lt_add_one, Nat.zero_lt_one, Nat.reduceLT, Nat.lt_irrefl, fillL, List.length_append, foldIntL, kind_beq, pures_int, solids_int, plains_int, unders_int, scalars_int, Int.lt_irrefl]
  | succ d ih =>
    intro i c hi hc
    obtain ⟨g1, g2⟩ := turn_inner h7 M hM i (by omega) v8 v10 v12 v13 v14 v15 v16 v17 v18 (10 * i) (by omega) i 0 c (by omega) (by omega)
    obtain ⟨ih1, ih2⟩ := ih (i + 1) (invI t (nth t i) i 0 c) (by omega) (by omega)
    rw [invO]
    refine ⟨?_, ih2⟩
    simp only [Int.natCast_zero] at g1
    generalize invI t (nth t i) i 0 c = z at *
    rw [law13_WashExchanged.L1_eq]
    simp only [law13_WashExchanged.B1, beqT, beqF, exF_seq, exF_region, exF_block, exF_cond, exF_ret, exF_exit, exF_skip, runL, wantL, stepL, evL, LEnv.at, putL, loadFine, loadL, cellsAt, Trk.putNew, Trk.up, Trk.touch, Trk.gives, Trk.calm, Trk.hit, opdsOf, Trk.fresh, LEnv.keep, LEnv.ofFrom, List.map_cons, List.map_nil, nbeq, nble, nblt, ofAV, ofAVs, lenL, bin_add, bin_sub, bin_mul, bin_eql, bin_neq, bin_lss, bin_leq, bin_gtr, bin_geq, natL_nat, natL_zero, natL_one, natL_two, Nat.zero_mul, List.any_cons, List.any_nil, Bool.or_false, Bool.false_or, Bool.true_or, Bool.or_true, Bool.and_true, Bool.true_and, Bool.and_false, Bool.false_and, Bool.not_true, Bool.not_false, Nat.reduceBEq, Nat.reduceEqDiff, decide_true, decide_false, cond_true, cond_false, List.filter_nil, List.filter_cons, Nat.reduceAdd, Nat.reduceLeDiff, reduceCtorEq, List.length_nil, List.length_cons, Nat.mul_one, if_true, if_false, Bool.false_eq_true, eq_self, and_true, true_and, retL, resultsL, resAllL, resOfL, List.append_nil, List.nil_append, List.cons_append, true_or, or_true, false_or, or_false, false_and, and_false, not_true_eq_false, not_false_eq_true, ne_eq, unL, trim_nil, views_pures, LV.pures, LV.pure, freeze, Nat.reduceDiv, Int.reduceEq, Int.reduceLT, Int.reduceLE, Int.natCast_zero, LV.cells, allocL, List.getElem?_cons_zero, List.getElem?_cons_succ, storeL, spliceL, List.take_zero, List.take_succ_cons, List.drop_zero, List.drop_succ_cons, List.drop_nil, List.take_nil, Nat.le_refl, Nat.reduceMul, List.set_cons_zero, List.set_cons_succ, LV.scalar, List.all_cons, List.all_nil, Nat.lt_add_one, Nat.zero_lt_one, Nat.reduceLT, Nat.lt_irrefl, fillL, List.length_append, foldIntL, kind_beq, pures_int, solids_int, plains_int, unders_int, scalars_int, show ((i : Int) < (t.length : Int)) by omega, g1, wrap_succ (show i + 1 < 9223372036854775808 by omega), ih1]

theorem bytes7_nat {ns : List Int} (hl : ns.length = 7) (hb : ∀ n ∈ ns, 0 ≤ n ∧ n < 256) : ∃ bs : List Nat, ns.map (LV.int .u8) = bys bs ∧ bs.length = 7 ∧ ∀ b ∈ bs, b < 256 := by
  obtain ⟨l, rfl, h⟩ := bytes_nat ns hb
  exact ⟨l, rfl, by simpa using hl, h⟩
theorem exch_in (ns : List Int) (hl : ns.length = 8) (hb : ∀ n ∈ ns, 0 ≤ n ∧ n < 256) (os : List Int) (hol : os.length = 7) (hob : ∀ n ∈ os, 0 ≤ n ∧ n < 256) :
    clF LP n_law13_WashExchanged [.agg (ns.map (LV.int .u8)), .agg (os.map (LV.int .u8))] [] = some (.P, .bool true, []) := by
  obtain ⟨p, bs, e, hp, hb7, hbb⟩ := swell_nat hl hb
  obtain ⟨cs, e2, hc7, hcb⟩ := bytes7_nat hol hob
  rw [e, e2]
  clear e e2 hb hl hol hob
  have hm := fun m => made_c p hp 5 (by omega) (by omega) bs hb7 hbb m
  simp only [show ((5 : Nat) : Int) = 5 from rfl] at hm
  have hk : p % 5 < 5 := Nat.mod_lt _ (by omega)
  obtain ⟨A, hdl⟩ := drawN_td (show 1 ≤ 1 + p % 5 by omega) (show 1 + p % 5 ≤ 7 by omega) bs
  generalize drawN (1 + p % 5) bs = a at *
  have h1 := A.h1
  have h5 : a.length ≤ 5 := by omega
  have hdr := fun m => drawn_c a.length h1 (by omega) cs hc7 hcb m
  obtain ⟨B, hbl⟩ := drawN_td h1 (by omega) cs
  generalize drawN a.length cs = b at *
  have hba : b.length = a.length := hbl
  obtain ⟨Ra, na, Ka⟩ := known A.T A.h1 A.h7
  obtain ⟨Rb, nb, Kb⟩ := known B.T B.h1 B.h7
  have AB := td_comp A B hba.symm
  obtain ⟨Rc, nc, Kc⟩ := known AB.T AB.h1 AB.h7
  have hablen : (thenN a b).length = a.length := thenN_len a b
  have H := halved A.T h1 (by omega) Ka.hp
  have tB : Tide a.length b := by rw [← hba]; exact B.T
  have tA : Tide b.length a := by rw [hba]; exact A.T
  have tC : Tide a.length (thenN a b) := by have := AB.T; rw [hablen] at this; exact this
  have P1 := pairA A.T h1 h5 tB Ka.hp Kb.hp
  have P2 := pairA B.T B.h1 (by omega) tA Kb.hp Ka.hp
  have P3 := pairA AB.T AB.h1 (by omega) (by rw [hablen]; exact A.T) Kc.hp Ka.hp
  have hpar := P1.par
  rw [← thenN_mapN] at hpar
  have oa := P1.odd
  have ob := P2.odd
  have oc := P3.odd
  have hbs8 : (bys (p :: bs)).length = 8 := by simp [hb7]
  have hps : LV.pures (bys (p :: bs)) = true := pures_int _ _
  have htk : (bys (p :: bs)).take 8 = bys (p :: bs) := List.take_of_length_le (by omega)
  generalize bys (p :: bs) = w8 at *
  have hbs7 : (bys cs).length = 7 := by simp [hc7]
  have hps7 : LV.pures (bys cs) = true := pures_int _ _
  have htk7 : (bys cs).take 7 = bys cs := List.take_of_length_le (by omega)
  generalize bys cs = w7 at *
  have hpure : LV.pures [LV.agg w8, LV.agg w7] = true := by simp only [LV.pures, LV.pure, hps, hps7, Bool.and_true]
  have t1 := fun m => thenP_c false false false false (ci a) (ci b) (by rw [ci_len]; omega) (by rw [ci_len]; omega) m
  have t2 := fun m => thenP_c false false false false (ci b) (ci a) (by rw [ci_len]; omega) (by rw [ci_len]; omega) m
  have x1 := fun m => exchP_c false false false false (ci a) (ci b) (by rw [ci_len]; omega) (by rw [ci_len]; omega) m
  rw [thenV_td A B hba.symm, both_td A B hba.symm] at t1
  rw [thenV_td B A hba, both_td B A hba] at t2
  rw [both_td A B hba.symm] at x1
  have hxv : exchV (ci a) (ci b) = decide (thenN a b = thenN b a) := by
    unfold exchV
    rw [both_td A B hba.symm, ci_toNat, ci_toNat, Bool.eq_iff_iff]
    simp only [decide_true, Bool.true_and, decide_eq_true_eq]
    exact eqN_all _ _ (by rw [thenN_len, thenN_len, hba])
  rw [hxv] at x1
  have l1 := fun m => thenL_c false false false false 1 1 a b (by intro x hx; rw [hba]; exact A.lt x hx) (by omega) m
  have l2 := fun m => thenL_c false false false false 1 1 b a (by intro x hx; rw [← hba]; exact B.lt x hx) (by omega) m
  have s1 : ∀ m, clF LP n_law13_same [RLn (thenN a b), RLn (thenN a b)] m = some (.P, .bool true, m) := fun m => same_refl _ _ _ _ _ _ (ci (thenN a b)) (by rw [ci_len, thenN_len]; omega) m
  have s2 : ∀ m, clF LP n_law13_same [RLn (thenN b a), RLn (thenN b a)] m = some (.P, .bool true, m) := fun m => same_refl _ _ _ _ _ _ (ci (thenN b a)) (by rw [ci_len, thenN_len]; omega) m
  have s3 : ∀ m, clF LP n_law13_same [RLn (thenN a b), RLn (thenN b a)] m = some (.P, .bool (decide (thenN a b = thenN b a)), m) := fun m => same_c _ _ _ _ _ _ (thenN a b) (thenN b a) (by rw [thenN_len]; omega) (by rw [thenN_len]; omega) m
  have hRL : RLn (thenN a b) = IL false false 1 (ci (thenN a b)) := by
    have : ci (thenN a b) ≠ [] := by intro c; have := congrArg List.length c; rw [ci_len, hablen] at this; change a.length = 0 at this; omega
    simp only [RLn, RL, this, decide_false, cond_false]
  have hfr := fun m => pFriends_c false false A Ka H A.chk m
  have o1 := fun m => oddP_c false false A Ka A.chk m
  have o2 := fun m => oddP_c false false B Kb B.chk m
  have o3 : ∀ m, clF LP n_wash_Odd [RLn (thenN a b)] m = some (.P, .tup [.bool (oddB Rc), .int .i64 0], m) := fun m => by rw [hRL]; exact oddP_c false false AB Kc AB.chk m
  obtain ⟨Y, htd⟩ := tides_exch w8 w7 A
  obtain ⟨htu, htb⟩ := turn_outer A.h7 (XTH w8 w7 a (friendsF a).length Y) rfl (.int .i64 0) (.int .i64 0) (.int .i64 0) (.ptr 3 0 1) (.int .i64 ((friendsF a).length : Int)) (.bool (oddB Ra)) (.bool (oddB Rb)) (.bool (oddB Rc)) (.int .i64 0) a.length 0 0 (by omega) (by omega)
  have hinv : invO a a.length 0 0 = inv a := rfl
  rw [hinv] at htu htb
  have hl2 : (ci a).length = a.length := ci_len a
  have hzz : oddB Rc = (oddB Ra ^^ oddB Rb) := by
    rw [oddB_eq, oddB_eq, oddB_eq, oa, ob, oc, hpar]
    have e1 := Nat.mod_two_eq_zero_or_one (inv a)
    have e2 := Nat.mod_two_eq_zero_or_one (inv b)
    have e3 : (inv a + inv b) % 2 = (inv a % 2 + inv b % 2) % 2 := Nat.add_mod _ _ _
    rcases e1 with e1 | e1 <;> rcases e2 with e2 | e2 <;> rw [e3, e1, e2] <;> rfl
  have hxx : oddB Ra = decide (((inv a % 2 : Nat) : Int) = 1) := by
    rw [oddB_eq, oa]
    rcases Nat.mod_two_eq_zero_or_one (inv a) with h | h <;> rw [h] <;> rfl
  have r2 : binL .rem (.int .i64 (inv a : Int)) (.int .i64 2) = some (.int .i64 ((inv a % 2 : Nat) : Int)) := by rw [bin_rem _ _ _ (show (2 : Int) ≠ 0 by omega)]; rfl
  rw [hzz] at htu o3
  simp only [hxx] at htu o1 o3
  simp only [XTH, XTC, Int.natCast_zero] at htd htu
  generalize oddB Rb = yb at *
  generalize (friendsF a).length = z at *
  generalize RLn (thenN a b) = X1 at *
  generalize RLn (thenN b a) = X2 at *
  generalize decide (thenN a b = thenN b a) = dd at *
  generalize inv a % 2 = ia at *
  generalize inv a = iva at *
  generalize ci a = ca at *
  generalize ci b = cb at *
  refine call_P lp_law13_WashExchanged rfl hpure (m1 := ⟨w8, true⟩ :: ⟨w7, true⟩ :: ⟨[IL false false 1 ca], true⟩ :: ⟨[.int .i64 (z : Int)], true⟩ :: Y) ?_ rfl []
  have hbb : ∀ x y : Bool, ((x ^^ y) == (true ^^ (x == y))) = true := by decide
  simp only [law13_WashExchanged, law13_WashExchanged.B]
  repeat (rw [exF_seq]; try simp only [beqT, beqF, exF_region, exF_block, exF_cond, exF_ret, exF_exit, exF_skip, runL, wantL, stepL, evL, LEnv.at, putL, loadFine, loadL, cellsAt, Trk.putNew, Trk.up, Trk.touch, Trk.gives, Trk.calm, Trk.hit, opdsOf, Trk.fresh, LEnv.keep, LEnv.ofFrom, List.map_cons, List.map_nil, nbeq, nble, nblt, ofAV, ofAVs, lenL, bin_add, bin_sub, bin_mul, bin_eql, bin_neq, bin_lss, bin_leq, bin_gtr, bin_geq, natL_nat, natL_zero, natL_one, natL_two, Nat.zero_mul, List.any_cons, List.any_nil, Bool.or_false, Bool.false_or, Bool.true_or, Bool.or_true, Bool.and_true, Bool.true_and, Bool.and_false, Bool.false_and, Bool.not_true, Bool.not_false, Nat.reduceBEq, Nat.reduceEqDiff, decide_true, decide_false, cond_true, cond_false, List.filter_nil, List.filter_cons, Nat.reduceAdd, Nat.reduceLeDiff, reduceCtorEq, List.length_nil, List.length_cons, Nat.mul_one, if_true, if_false, Bool.false_eq_true, eq_self, and_true, true_and, retL, resultsL, resAllL, resOfL, List.append_nil, List.nil_append, List.cons_append, true_or, or_true, false_or, or_false, false_and, and_false, not_true_eq_false, not_false_eq_true, ne_eq, unL, trim_nil, views_pures, LV.pures, LV.pure, freeze, Nat.reduceDiv, Int.reduceEq, Int.reduceLT, Int.reduceLE, Int.natCast_zero, LV.cells, allocL, List.getElem?_cons_zero, List.getElem?_cons_succ, storeL, spliceL, List.take_zero, List.take_succ_cons, List.drop_zero, List.drop_succ_cons, List.drop_nil, List.take_nil, Nat.le_refl, Nat.reduceMul, List.set_cons_zero, List.set_cons_succ, LV.scalar, List.all_cons, List.all_nil, Nat.lt_add_one, Nat.zero_lt_one, Nat.reduceLT, Nat.lt_irrefl, fillL, List.length_append, foldIntL, kind_beq, pures_int, solids_int, plains_int, unders_int, scalars_int, hbs8, hbs7, htk, htk7, hm, hl2, hdr, t1, t2, x1, l1, l2, s1, s2, s3, htd, hfr, o1, o2, o3, htu, r2, hbb, beq_self_eq_true, Bool.xor_self, Bool.false_xor, works_c])
end Go.Am.Wash


