/-
  What functions of chapter 13 compute, outright 10: tides under names.
-/
import Derived.Test.YtgogknjedpmcgaaWashD9
set_option linter.unusedVariables false
set_option linter.unusedSimpArgs false
set_option maxRecDepth 10000
set_option maxHeartbeats 2000000
namespace Go.Am.Wash
open Go.Am.G

theorem two_td {a b : List Nat} (A : Td a) (B : Td b) (h : a.length = b.length) : Two a b := ⟨A, B, h, both_td A B h⟩
theorem namN_at {a l : List Nat} (W : Two a l) (j : Nat) (hj : j < l.length) : nth (namN a l) (nth l j) = nth l (nth a j) :=
  nmI_at W l.length 0 _ (by omega) (by simp) (fun i hi => absurd hi (by omega)) j hj
theorem thenN_nth (a b : List Nat) (j : Nat) (hj : j < a.length) : nth (thenN a b) j = nth b (nth a j) := by
  rw [thenN_mapN, mapN_nth b a j hj]
/-- A tide under names is another one just if these exchange them. -/
theorem isNm_iff {a b l : List Nat} (W : Two a l) (hb : b.length = a.length) : isNm a b l = decide (namN a l = b) := by
  have hl := W.len
  rw [isNm, Bool.eq_iff_iff, decide_eq_true_eq]
  constructor
  · intro h
    have h := eqN_ok _ _ h
    apply list_nth_ext (by rw [namN_len, hb, hl])
    intro x hx
    rw [namN_len] at hx
    obtain ⟨j, hj, rfl⟩ := mem_nth (covers W.B x hx)
    rw [namN_at W j hj, ← mapN_nth l a j (by omega), ← h, mapN_nth b l j hj]
  · rintro rfl
    have : mapN (namN a l) l = mapN l a := by
      apply list_nth_ext (by rw [mapN_len, mapN_len, hl])
      intro x hx
      rw [mapN_len] at hx
      rw [mapN_nth _ _ _ hx, mapN_nth _ _ _ (by omega), namN_at W x hx]
    rw [this]
    exact (eqN_all _ _ rfl).2 rfl
theorem td_nam {a l : List Nat} (W : Two a l) : Td (namN a l) := by
  have hl := W.len
  have key : ∀ x y, x < l.length → y < l.length → nth (namN a l) x = nth (namN a l) y → x = y := by
    intro x y hx hy e
    obtain ⟨i, hi, rfl⟩ := mem_nth (covers W.B x hx)
    obtain ⟨j, hj, rfl⟩ := mem_nth (covers W.B y hy)
    rw [namN_at W i hi, namN_at W j hj] at e
    have ai : nth a i < l.length := by rw [← hl, nth_at' a i (by omega)]; exact W.A.lt _ (List.getElem_mem _)
    have aj : nth a j < l.length := by rw [← hl, nth_at' a j (by omega)]; exact W.A.lt _ (List.getElem_mem _)
    have e2 := it_inj W.B.T ai aj 1 e
    have e3 := it_inj W.A.T (by omega) (by omega) 1 e2
    rw [e3]
  have hlen : (namN a l).length = l.length := namN_len a l
  refine ⟨⟨rfl, ?_, ?_⟩, by rw [hlen]; exact W.B.h1, by rw [hlen]; exact W.B.h7⟩
  · rw [List.Nodup, List.pairwise_iff_getElem]
    intro i j hi hj hij e
    have := key i j (by omega) (by omega) (by rw [nth_at' _ i hi, nth_at' _ j hj, e])
    omega
  · intro x hx
    obtain ⟨i, hi, rfl⟩ := mem_nth hx
    rw [hlen] at hi ⊢
    obtain ⟨j, hj, rfl⟩ := mem_nth (covers W.B i hi)
    rw [namN_at W j hj]
    have aj : nth a j < l.length := by rw [← hl, nth_at' a j (by omega)]; exact W.A.lt _ (List.getElem_mem _)
    rw [nth_at' l _ aj]
    exact W.B.lt _ (List.getElem_mem _)
theorem kinds_cnt {R S : List (List Nat)} (h : eqN (kindsN R) (kindsN S) = true) : ∀ x, 1 ≤ x → x < 8 → cntN R x = cntN S x := by
  have h := eqN_ok _ _ h
  simp only [kindsN, List.cons.injEq, and_true] at h
  obtain ⟨h1, h2, h3, h4, h5, h6, h7⟩ := h
  intro x hx h8
  match x, hx, h8 with
  | 1, _, _ => exact h1
  | 2, _, _ => exact h2
  | 3, _, _ => exact h3
  | 4, _, _ => exact h4
  | 5, _, _ => exact h5
  | 6, _, _ => exact h6
  | 7, _, _ => exact h7
theorem kinds_alk {a b : List Nat} {R S : List (List Nat)} {i j : Nat} (K : Known a R i) (K' : Known b S j) : eqN (kindsN R) (kindsN S) = alkB R S := by
  rw [← alk_eq K K', Bool.eq_iff_iff, alkF_ok]
  constructor
  · intro h x h1 h2
    have := kinds_cnt h x h1 (by omega)
    rwa [cntN_eq, cntN_eq] at this
  · intro h
    have e : kindsN R = kindsN S := by
      simp only [kindsN, cntN_eq]
      rw [h 1 (by omega) (by omega), h 2 (by omega) (by omega), h 3 (by omega) (by omega), h 4 (by omega) (by omega), h 5 (by omega) (by omega), h 6 (by omega) (by omega), h 7 (by omega) (by omega)]
    rw [e]
    exact (eqN_all _ _ rfl).2 rfl
theorem prodF_cnt {R S : List (List Nat)} (h : ∀ x, x < 8 → cntN R x = cntN S x) (n : Nat) : ∀ m a, m + n ≤ 8 → prodF R n m a = prodF S n m a := by
  induction n with
  | zero => intro m a _; rfl
  | succ n ih => intro m a hm; rw [prodF, prodF, h m (by omega), ih _ _ (by omega)]
theorem facA_cnt {R S : List (List Nat)} (h : ∀ x, x < 8 → cntN R x = cntN S x) (n : Nat) : ∀ m a, m + n ≤ 8 → facA R n m a = facA S n m a := by
  induction n with
  | zero => intro m a _; rfl
  | succ n ih =>
    intro m a hm
    rw [facA, facA, h m (by omega)]
    cases facF m (cntN S m) 0 a with
    | none => rfl
    | some x => exact ih _ _ (by omega)
theorem backA_cnt {R S : List (List Nat)} (h : ∀ x, x < 8 → cntN R x = cntN S x) (n : Nat) : ∀ m a, m + n ≤ 8 → backA R n m a = backA S n m a := by
  induction n with
  | zero => intro m a _; rfl
  | succ n ih =>
    intro m a hm
    rw [backA, backA, h m (by omega)]
    cases backL (cntN S m) m a 20 a with
    | none => rfl
    | some x => exact ih _ _ (by omega)
/-- What tides of one kind have in common. -/
theorem kin_same {a b : List Nat} (A : Td a) (B : Td b) (ha : a.length ≤ 6) (hb : b.length ≤ 6) {R S : List (List Nat)} {i j : Nat} (K : Known a R i) (K' : Known b S j) (h : eqN (kindsN R) (kindsN S) = true) :
    (halvesF a).length = (halvesF b).length ∧ (friendsF a).length = (friendsF b).length ∧ i = j ∧ oddB R = oddB S := by
  have hc := kinds_cnt h
  have hc : ∀ x, x < 8 → cntN R x = cntN S x := fun x hx => by
    by_cases c : x = 0
    · subst c; rw [cntN_eq, cntN_eq, cnt_0 K, cnt_0 K']
    · exact hc x (by omega) hx
  have H := halved A.T A.h1 ha K.hp
  have H' := halved B.T B.h1 hb K'.hp
  refine ⟨?_, ?_, ?_, ?_⟩
  · have h1 := H.n
    rw [prodF_cnt hc 8 0 1 (by omega), H'.n] at h1
    exact (Option.some.inj h1).symm
  · have h1 := H.fr
    rw [facA_cnt hc 8 0 1 (by omega), H'.fr] at h1
    exact (Option.some.inj h1).symm
  · have h1 := K.ba
    rw [backA_cnt hc 6 2 1 (by omega), K'.ba] at h1
    exact (Option.some.inj h1).symm
  · rw [oddB_eq, oddB_eq, oddN, oddN, hc 2 (by omega), hc 4 (by omega), hc 6 (by omega)]

/-! ### The program's own 'under' -/
theorem under_loop (x y : Bool) {a l : List Nat} (W : Two a l) (d : Nat) : ∀ (k : Nat) (o : List Nat), k + d = a.length → o.length = a.length →
    exF LP law13_WashNamed_1.L0 [(0, IL x y 1 (ci l)), (5, .sl 0 0 a.length a.length 0 1 a.length), (10, IL false false 1 (ci a)), (11, .int .i64 (a.length : Int)), (12, .int .i64 (k : Int))] [⟨ints (ci o), true⟩] =
      some (.exit 0, [(5, .sl 0 0 a.length a.length 0 1 a.length)], [⟨ints (ci (nmI a l d k o)), true⟩]) := by
  have h7 := W.A.h7
  have hl := W.len
  induction d with
  | zero =>
    intro k o hk ho
    rw [law13_WashNamed_1.L0_eq]
    simp only [law13_WashNamed_1.B0, beqT, beqF, exF_seq, exF_region, exF_block, exF_cond, exF_ret, exF_exit, exF_skip, runL, wantL, stepL, evL, LEnv.at, putL, loadFine, loadL, cellsAt, Trk.putNew, Trk.up, Trk.touch, Trk.gives, Trk.calm, Trk.hit, opdsOf, Trk.fresh, LEnv.keep, LEnv.ofFrom, List.map_cons, List.map_nil, nbeq, nble, nblt, ofAV, ofAVs, lenL, bin_add, bin_sub, bin_mul, bin_eql, bin_neq, bin_lss, bin_leq, bin_gtr, bin_geq, natL_nat, natL_zero, natL_one, natL_two, Nat.zero_mul, List.any_cons, List.any_nil, Bool.or_false, Bool.false_or, Bool.true_or, Bool.or_true, Bool.and_true, Bool.true_and, Bool.and_false, Bool.false_and, Bool.not_true, Bool.not_false, Nat.reduceBEq, Nat.reduceEqDiff, decide_true, decide_false, cond_true, cond_false, List.filter_nil, List.filter_cons, Nat.reduceAdd, Nat.reduceLeDiff, reduceCtorEq, List.length_nil, List.length_cons, Nat.mul_one, if_true, if_false, Bool.false_eq_true, eq_self, and_true, true_and, retL, resultsL, resAllL, resOfL, List.append_nil, List.nil_append, List.cons_append, true_or, or_true, false_or, or_false, false_and, and_false, not_true_eq_false, not_false_eq_true, ne_eq, unL, trim_nil, views_pures, LV.pures, LV.pure, freeze, Nat.reduceDiv, Int.reduceEq, Int.reduceLT, Int.reduceLE, Int.natCast_zero, LV.cells, allocL, List.getElem?_cons_zero, List.getElem?_cons_succ, storeL, spliceL, List.take_zero, List.take_succ_cons, List.drop_zero, List.drop_succ_cons, List.drop_nil, List.take_nil, Nat.le_refl, Nat.reduceMul, List.set_cons_zero, List.set_cons_succ, LV.scalar, List.all_cons, List.all_nil, Nat.lt_add_one, Nat.zero_lt_one, Nat.reduceLT, Nat.lt_irrefl, fillL, List.length_append, foldIntL, kind_beq, pures_int, solids_int, plains_int, unders_int, scalars_int, show ¬ ((k : Int) < (a.length : Int)) by omega, nmI]
  | succ d ih =>
    intro k o hk ho
    have h2 : k < a.length := by omega
    have h3 : k < l.length := by omega
    have h4 : nth a k < a.length := by rw [nth_at' a k h2]; exact W.A.lt _ (List.getElem_mem h2)
    have h5 : nth l k < a.length := by rw [nth_at' l k h3, hl]; exact W.B.lt _ (List.getElem_mem h3)
    have ih := ih (k + 1) (o.set (nth l k) (nth l (nth a k))) (by omega) (by simpa using ho)
    have c1 : ((ci a).map (LV.int .i64))[k]? = some (.int .i64 ((nth a k : Nat) : Int)) := by rw [ci_map, nat_at _ _ _ h2, nth_at a k h2]
    have c2 : ((ci l).map (LV.int .i64))[k]? = some (.int .i64 ((nth l k : Nat) : Int)) := by rw [ci_map, nat_at _ _ _ h3, nth_at l k h3]
    have c3 : ((ci l).map (LV.int .i64))[nth a k]? = some (.int .i64 ((nth l (nth a k) : Nat) : Int)) := by rw [ci_map, nat_at _ _ _ (by omega), nth_at l _ (by omega)]
    have hoc : (ints (ci o)).length = a.length := by simp [ho]
    have hst : (ints (ci o)).take (nth l k) ++ [.int .i64 ((nth l (nth a k) : Nat) : Int)] ++ (ints (ci o)).drop (nth l k + 1) = ints (ci (o.set (nth l k) (nth l (nth a k)))) := by
      have := set_int .i64 (ci o) (nth l k) ((nth l (nth a k) : Nat) : Int) (by rw [ci_len]; omega)
      rw [ints, this]
      simp [List.map_set]
    have hl1 := ci_len a
    have hl2 := ci_len l
    have h6 : nth a k < l.length := by omega
    have hws := wrap_succ (show k + 1 < 9223372036854775808 by omega)
    rw [law13_WashNamed_1.L0_eq, nmI]
    generalize nmI a l d (k + 1) (o.set (nth l k) (nth l (nth a k))) = z at *
    generalize o.set (nth l k) (nth l (nth a k)) = o2 at *
    generalize nth l (nth a k) = u3 at *
    generalize nth l k = u2 at *
    generalize nth a k = u1 at *
    generalize ints (ci o) = oi at *
    generalize ints (ci o2) = oi2 at *
    generalize ci a = ca at *
    generalize ci l = cl at *
    simp only [law13_WashNamed_1.B0, beqT, beqF, exF_seq, exF_region, exF_block, exF_cond, exF_ret, exF_exit, exF_skip, runL, wantL, stepL, evL, LEnv.at, putL, loadFine, loadL, cellsAt, Trk.putNew, Trk.up, Trk.touch, Trk.gives, Trk.calm, Trk.hit, opdsOf, Trk.fresh, LEnv.keep, LEnv.ofFrom, List.map_cons, List.map_nil, nbeq, nble, nblt, ofAV, ofAVs, lenL, bin_add, bin_sub, bin_mul, bin_eql, bin_neq, bin_lss, bin_leq, bin_gtr, bin_geq, natL_nat, natL_zero, natL_one, natL_two, Nat.zero_mul, List.any_cons, List.any_nil, Bool.or_false, Bool.false_or, Bool.true_or, Bool.or_true, Bool.and_true, Bool.true_and, Bool.and_false, Bool.false_and, Bool.not_true, Bool.not_false, Nat.reduceBEq, Nat.reduceEqDiff, decide_true, decide_false, cond_true, cond_false, List.filter_nil, List.filter_cons, Nat.reduceAdd, Nat.reduceLeDiff, reduceCtorEq, List.length_nil, List.length_cons, Nat.mul_one, if_true, if_false, Bool.false_eq_true, eq_self, and_true, true_and, retL, resultsL, resAllL, resOfL, List.append_nil, List.nil_append, List.cons_append, true_or, or_true, false_or, or_false, false_and, and_false, not_true_eq_false, not_false_eq_true, ne_eq, unL, trim_nil, views_pures, LV.pures, LV.pure, freeze, Nat.reduceDiv, Int.reduceEq, Int.reduceLT, Int.reduceLE, Int.natCast_zero, LV.cells, allocL, List.getElem?_cons_zero, List.getElem?_cons_succ, storeL, spliceL, List.take_zero, List.take_succ_cons, List.drop_zero, List.drop_succ_cons, List.drop_nil, List.take_nil, Nat.le_refl, Nat.reduceMul, List.set_cons_zero, List.set_cons_succ, LV.scalar, List.all_cons, List.all_nil, Nat.lt_add_one, Nat.zero_lt_one, Nat.reduceLT, Nat.lt_irrefl, fillL, List.length_append, foldIntL, kind_beq, pures_int, solids_int, plains_int, unders_int, scalars_int, show ((k : Int) < (a.length : Int)) by omega, hl1, hl2, h2, h3, h5, h6, c1, c2, c3, hoc, Nat.zero_add, show u2 + 1 ≤ a.length by omega, hst, hws, ih]
theorem under_m {args : List LV} {ids : List Nat} {m : LMem} (x y : Bool) {a l : List Nat} (W : Two a l) (hv : views m args = some ([IL x y 1 (ci l), .elt [.int .i64 (a.length : Int)] 0, .elt [IL false false 1 (ci a)] 0], ids)) :
    clF LP n_law13_WashNamed_1 args m = some (.P, IL false true 1 (ci (namN a l)), m) := by
  have h7 := W.A.h7
  have hl := W.len
  have hlo := under_loop x y W a.length 0 (List.replicate a.length 0) (by omega) (by simp)
  have e : nmI a l a.length 0 (List.replicate a.length 0) = namN a l := by rw [namN, ← hl]
  rw [e] at hlo
  simp only [Int.natCast_zero] at hlo
  have hz : zerosL [.int .i64 0] a.length = ints (ci (List.replicate a.length 0)) := by rw [zeros_int]; simp
  have r1 : a.length * 8 ≤ roomMost := by unfold roomMost; omega
  have r2 : a.length ≤ roomMost := by unfold roomMost; omega
  have hal : (namN a l).length = a.length := by rw [namN_len, hl]
  generalize namN a l = w at *
  have hl1 := ci_len a
  have hr : retL law13_WashNamed_1.results (exF LP law13_WashNamed_1.body (LEnv.ofFrom 0 [IL x y 1 (ci l), .elt [.int .i64 (a.length : Int)] 0, .elt [IL false false 1 (ci a)] 0]) []) = some (.sl 0 0 a.length a.length 0 1 a.length, [⟨ints (ci w), true⟩]) := by
    generalize ints (ci w) = wi at *
    generalize ci l = cl at *
    generalize ci a = ca at *
    simp only [law13_WashNamed_1, law13_WashNamed_1.B, beqT, beqF, exF_seq, exF_region, exF_block, exF_cond, exF_ret, exF_exit, exF_skip, runL, wantL, stepL, evL, LEnv.at, putL, loadFine, loadL, cellsAt, Trk.putNew, Trk.up, Trk.touch, Trk.gives, Trk.calm, Trk.hit, opdsOf, Trk.fresh, LEnv.keep, LEnv.ofFrom, List.map_cons, List.map_nil, nbeq, nble, nblt, ofAV, ofAVs, lenL, bin_add, bin_sub, bin_mul, bin_eql, bin_neq, bin_lss, bin_leq, bin_gtr, bin_geq, natL_nat, natL_zero, natL_one, natL_two, Nat.zero_mul, List.any_cons, List.any_nil, Bool.or_false, Bool.false_or, Bool.true_or, Bool.or_true, Bool.and_true, Bool.true_and, Bool.and_false, Bool.false_and, Bool.not_true, Bool.not_false, Nat.reduceBEq, Nat.reduceEqDiff, decide_true, decide_false, cond_true, cond_false, List.filter_nil, List.filter_cons, Nat.reduceAdd, Nat.reduceLeDiff, reduceCtorEq, List.length_nil, List.length_cons, Nat.mul_one, if_true, if_false, Bool.false_eq_true, eq_self, and_true, true_and, retL, resultsL, resAllL, resOfL, List.append_nil, List.nil_append, List.cons_append, true_or, or_true, false_or, or_false, false_and, and_false, not_true_eq_false, not_false_eq_true, ne_eq, unL, trim_nil, views_pures, LV.pures, LV.pure, freeze, Nat.reduceDiv, Int.reduceEq, Int.reduceLT, Int.reduceLE, Int.natCast_zero, LV.cells, allocL, List.getElem?_cons_zero, List.getElem?_cons_succ, storeL, spliceL, List.take_zero, List.take_succ_cons, List.drop_zero, List.drop_succ_cons, List.drop_nil, List.take_nil, Nat.le_refl, Nat.reduceMul, List.set_cons_zero, List.set_cons_succ, LV.scalar, List.all_cons, List.all_nil, Nat.lt_add_one, Nat.zero_lt_one, Nat.reduceLT, Nat.lt_irrefl, fillL, List.length_append, foldIntL, kind_beq, pures_int, solids_int, plains_int, unders_int, scalars_int, hl1, r1, r2, hz, hlo]
  have hv2 := view_sl 37 [⟨ints (ci w), true⟩] 0 0 a.length a.length 0 (ci w) true rfl (by rw [ci_len]; exact hal) (by omega) a.length (by omega)
  rw [List.drop_zero, List.take_of_length_le (by rw [ci_len]; omega)] at hv2
  have hm : law13_WashNamed_1.mode = .P := rfl
  rw [clF_eq, lp_law13_WashNamed_1]
  simp only [callMode, hm, hv, hr, hv2]
  simp [newIds, LV.solid, nbeq, Function.comp_def]
  have : ∀ w : List Nat, LV.solids (w.map fun x : Nat => LV.int .i64 (x : Int)) = true := fun w => by
    have := solids_int .i64 (ci w)
    rwa [ci_map] at this
  simp [this]
end Go.Am.Wash


