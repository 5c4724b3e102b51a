import Derived.Test.YthnaeifkngeenaaDoorPgN1
/-
  What functions of chapter 12 compute, by tables, members handed over, other names 4: the walk over all places.
-/
set_option linter.unusedVariables false
set_option linter.unusedSimpArgs false
set_option maxRecDepth 10000
set_option maxHeartbeats 400000
namespace Go.Am.Post
open Go.Am.G

theorem view_at {m : LMem} {b n : Nat} {l : List Int} {o : Bool} (hn : l.length = n) (h : m[b]? = some ⟨ints l, o⟩) : ∀ k, view (k + 3) m (.sl b 0 n n 1 1 n) = some (IL false false 1 l, [b]) := fun k => by
  have := view_sl k m b 0 n n 1 l o h hn (by omega) n (Nat.le_refl _)
  rw [List.drop_zero, List.take_of_length_le (by omega)] at this
  rw [this]
  by_cases c : n = 0
  · subst c
    have : l = [] := by cases l; rfl; simp at hn
    subst this
    simp [nbeq]
  · simp [nbeq, c]

/-! ### Two lists that grow -/
def isB : LV → Nat → Prop
  | .sl i _ _ _ _ _ _, j => i = j
  | _, _ => False
def Two (m : LMem) (vO vT : LV) (O T : List Int) : Prop :=
  (O.length = 1 ∧ T.length = 1 ∧ vO = .lst false true 1 1 (ints O) ∧ vT = .lst false true 1 1 (ints T)) ∨
  ∃ a b, a ≠ b ∧ vO = .sl a 0 O.length O.length 1 1 O.length ∧ vT = .sl b 0 T.length T.length 1 1 T.length ∧ m[a]? = some ⟨ints O, true⟩ ∧ m[b]? = some ⟨ints T, true⟩ ∧ 1 ≤ O.length ∧ 1 ≤ T.length
theorem Two.mono {m m' : LMem} {vO vT : LV} {O T : List Int} (H : Two m vO vT O T) (h : ∀ i, isB vO i ∨ isB vT i → m'[i]? = m[i]?) : Two m' vO vT O T := by
  rcases H with H | ⟨a, b, h1, h2, h3, h4, h5, h6⟩
  · exact .inl H
  · exact .inr ⟨a, b, h1, h2, h3, by rw [h a (.inl (by rw [h2]; rfl))]; exact h4, by rw [h b (.inr (by rw [h3]; rfl))]; exact h5, h6⟩
theorem Two.lt {m : LMem} {vO vT : LV} {O T : List Int} (H : Two m vO vT O T) {i : Nat} (h : isB vO i ∨ isB vT i) : i < m.length := by
  rcases H with ⟨_, _, h1, h2⟩ | ⟨a, b, h1, h2, h3, h4, h5, h6⟩
  · rw [h1, h2] at h; rcases h with h | h <;> cases h
  · rw [h2, h3] at h
    rcases h with h | h
    · cases h; exact (List.getElem?_eq_some_iff.1 h4).1
    · cases h; exact (List.getElem?_eq_some_iff.1 h5).1
theorem Two.lenO {m : LMem} {vO vT : LV} {O T : List Int} (H : Two m vO vT O T) : lenL vO = some O.length := by
  rcases H with ⟨h, _, h1, _⟩ | ⟨a, b, _, h2, _⟩
  · rw [h1, h]; rfl
  · rw [h2]; rfl
theorem one_form {l : List Int} (h : l.length = 1) : ∃ x, l = [x] := List.length_eq_one_iff.1 h
theorem Two.app {m : LMem} {vO vT : LV} {O T : List Int} (H : Two m vO vT O T) (x y : Int) (hO : O.length < 900) (hT : T.length < 900) : ∃ m1 m' vO' vT',
    appendL m 1 8 vO (.lst false true 1 1 [.int .i64 x]) = some (vO', m1) ∧ appendL m1 1 8 vT (.lst false true 1 1 [.int .i64 y]) = some (vT', m') ∧ Two m' vO' vT' (O ++ [x]) (T ++ [y]) ∧
    ∀ j, j < m.length → ¬ (isB vO j ∨ isB vT j) → m'[j]? = m[j]? ∧ ¬ (isB vO' j ∨ isB vT' j) := by
  rcases H with ⟨h1, h2, h3, h4⟩ | ⟨a, b, hab, h2, h3, h4, h5, h6, h7⟩
  · obtain ⟨o, rfl⟩ := one_form h1
    obtain ⟨t, rfl⟩ := one_form h2
    have k1 := app_lit m (.int .i64 x) (.int .i64 o) rfl
    have k2 := app_lit (m ++ [(⟨[.int .i64 o, .int .i64 x], true⟩ : LBlk)]) (.int .i64 y) (.int .i64 t) rfl
    refine ⟨m ++ [(⟨[.int .i64 o, .int .i64 x], true⟩ : LBlk)], (m ++ [(⟨[.int .i64 o, .int .i64 x], true⟩ : LBlk)]) ++ [(⟨[.int .i64 t, .int .i64 y], true⟩ : LBlk)], .sl m.length 0 2 2 1 1 2, .sl (m ++ [(⟨[.int .i64 o, .int .i64 x], true⟩ : LBlk)]).length 0 2 2 1 1 2, by rw [h3]; exact k1, by rw [h4]; exact k2, .inr ⟨m.length, m.length + 1, by omega, rfl, ?_, ?_, ?_, by simp, by simp⟩, fun j hj hn => ⟨?_, ?_⟩⟩
    · simp
    · simp
    · simp
    · rw [List.append_assoc, List.getElem?_append_left hj]
    · rintro (e | e)
      · change m.length = j at e; omega
      · change (m ++ [(⟨[.int .i64 o, .int .i64 x], true⟩ : LBlk)]).length = j at e
        simp at e; omega
  · have ha := (List.getElem?_eq_some_iff.1 h4).1
    have hb := (List.getElem?_eq_some_iff.1 h5).1
    have k1 := app_at m a O.length (ints O) (.int .i64 x) rfl h4 (by simp) h6 (by omega)
    have h5' : (m.set a (⟨ints O ++ [.int .i64 x], true⟩ : LBlk))[b]? = some ⟨ints T, true⟩ := by rw [List.getElem?_set_ne hab]; exact h5
    have k2 := app_at (m.set a (⟨ints O ++ [.int .i64 x], true⟩ : LBlk)) b T.length (ints T) (.int .i64 y) rfl h5' (by simp) h7 (by omega)
    refine ⟨m.set a (⟨ints O ++ [.int .i64 x], true⟩ : LBlk), (m.set a (⟨ints O ++ [.int .i64 x], true⟩ : LBlk)).set b (⟨ints T ++ [.int .i64 y], true⟩ : LBlk), .sl a 0 (O.length + 1) (O.length + 1) 1 1 (O.length + 1), .sl b 0 (T.length + 1) (T.length + 1) 1 1 (T.length + 1), by rw [h2]; exact k1, by rw [h3]; exact k2, .inr ⟨a, b, hab, by simp, by simp, ?_, ?_, by simp, by simp⟩, fun j hj hn => ⟨?_, ?_⟩⟩
    · rw [List.getElem?_set_ne (Ne.symm hab), List.getElem?_set_self ha]; simp
    · rw [List.getElem?_set_self (by rw [List.length_set]; exact hb)]; simp
    · rw [h2, h3] at hn
      have n1 : a ≠ j := fun e => hn (.inl e)
      have n2 : b ≠ j := fun e => hn (.inr e)
      rw [List.getElem?_set_ne n2, List.getElem?_set_ne n1]
    · rw [h2, h3] at hn
      exact hn
theorem Two.has {m : LMem} {vO vT : LV} {O T : List Int} (H : Two m vO vT O T) (x : Int) (hO : O.length < 900) : clF LP n_slices_Contains_int_int [vO, .int .i64 x] m = some (.P, .bool (decide (x ∈ O)), m) := by
  rcases H with ⟨h, _, h1, _⟩ | ⟨a, b, _, h2, _, h4, _⟩
  · have : clF LP n_slices_Contains_int_int [.lst false true 1 O.length (ints O), .int .i64 x] m = some (.P, .bool (decide (x ∈ O)), m) := containsI_c false true 1 O x (by omega) m
    rw [h] at this
    rw [h1]; exact this
  · rw [h2]
    exact call_view lp_slices_Contains_int_int rfl (views_two 32 _ _ _ _ _ (view_at rfl h4) (by simp [LV.pure]) (by simp [LV.pures, LV.pure])) (by simp [LV.pures, LV.pure]) (containsI_c false false 1 O x (by omega) []) rfl
theorem ci_app (O : List Nat) (p : Nat) : ci O ++ [(p : Int)] = ci (O ++ [p]) := by simp
theorem ci_memD (O : List Nat) (p : Nat) : decide ((p : Int) ∈ ci O) = decide (p ∈ O) := by
  rw [decide_eq_decide]
  unfold ci
  rw [List.mem_map]
  constructor
  · rintro ⟨a, h, e⟩
    have : a = p := by omega
    rw [← this]; exact h
  · exact fun h => ⟨p, h, rfl⟩
theorem named_inner (Tn S H N : LV) (k : Nat) (q : List Nat) (n : Nat) (hn : q.length = n) (h100 : n ≤ 100) (jn : Nat) (d : Nat) : ∀ (i : Nat) (m : LMem) (vO vT : LV) (O : List Nat) (T : List Int), i + d = n → Two m vO vT (ci O) T → m[jn]? = some ⟨ints (ci q), true⟩ → ¬ (isB vO jn ∨ isB vT jn) → O.length + d < 900 → T.length + d < 900 →
    ∃ m' vO' vT', exF LP law12_PostNamed.L0 [(2, Tn), (7, S), (8, H), (9, N), (10, vO), (11, vT), (12, .int .i64 (k : Int)), (62, .sl jn 0 n n 1 1 n), (63, .int .i64 (n : Int)), (64, .int .i64 (i : Int))] m =
      some (.exit 2, [(2, Tn), (7, S), (8, H), (9, N), (10, vO'), (11, vT'), (12, .int .i64 (k : Int))], m') ∧ Two m' vO' vT' (ci (addN k (q.drop i) O T).1) (addN k (q.drop i) O T).2 := by
  induction d with
  | zero =>
    intro i m vO vT O T hi H hj hnb _ _
    refine ⟨m, vO, vT, ?_, ?_⟩
    · rw [law12_PostNamed.L0_eq]
      simp only [law12_PostNamed.B0, beqT, beqF, exF_seq, exF_region, exF_block, exF_cond, exF_ret, exF_exit, exF_skip, runL, wantL, stepL, evL, evC, LEnv.at, putL, loadFine, loadL, cellsAt, Trk.putNew, Trk.up, Trk.touch, Trk.gives, Trk.calm, Trk.hit, opdsOf, Trk.fresh, LEnv.keep, LEnv.ofFrom, List.map_cons, List.map_nil, nbeq, nble, nblt, ofAV, ofAVs, lenL, bin_add, bin_sub, bin_mul, bin_eql, bin_neq, bin_lss, bin_leq, bin_gtr, bin_geq, natL_nat, natL_zero, natL_one, natL_two, Nat.zero_mul, List.any_cons, List.any_nil, Bool.or_false, Bool.false_or, Bool.true_or, Bool.or_true, Bool.and_true, Bool.true_and, Bool.and_false, Bool.false_and, Bool.not_true, Bool.not_false, Nat.reduceBEq, Nat.reduceEqDiff, decide_true, decide_false, cond_true, cond_false, List.filter_nil, List.filter_cons, Nat.reduceAdd, Nat.reduceLeDiff, reduceCtorEq, List.length_nil, List.length_cons, Nat.mul_one, if_true, if_false, Bool.false_eq_true, eq_self, and_true, true_and, retL, resultsL, resAllL, resOfL, List.append_nil, List.nil_append, List.cons_append, true_or, or_true, false_or, or_false, false_and, and_false, not_true_eq_false, not_false_eq_true, ne_eq, unL, trim_nil, views_pures, LV.pures, LV.pure, freeze, Nat.reduceDiv, Int.reduceEq, Int.reduceLT, Int.reduceLE, Int.natCast_zero, LV.cells, allocL, List.getElem?_cons_zero, List.getElem?_cons_succ, storeL, spliceL, List.take_zero, List.take_succ_cons, List.drop_zero, List.drop_succ_cons, List.drop_nil, List.take_nil, Nat.le_refl, Nat.reduceMul, List.set_cons_zero, List.set_cons_succ, LV.scalar, List.all_cons, List.all_nil, Nat.lt_add_one, Nat.zero_lt_one, Nat.reduceLT, Nat.lt_irrefl, fillL, List.length_append, foldIntL, kind_beq, pures_int, solids_int, plains_int, unders_int, scalars_int, show ¬ ((i : Int) < (n : Int)) by omega]
    · rw [List.drop_eq_nil_of_le (show q.length ≤ i by omega)]; exact H
  | succ d ih =>
    intro i m vO vT O T hi H hj hnb b1 b2
    have h2 : i < q.length := by omega
    have h3 : i < n := by omega
    have hci := ci_at q i h2
    have hil : (ints (ci q)).length = n := by simp [hn]
    have hc := H.has (q[i] : Int) (by simp; omega)
    rw [ci_memD] at hc
    have hws := wrap_succ (show i + 1 < 9223372036854775808 by omega)
    rw [List.drop_eq_getElem_cons h2, addN]
    by_cases c : q[i] ∈ O
    · rw [if_pos c]
      obtain ⟨m', vO', vT', e, H'⟩ := ih (i + 1) m vO vT O T (by omega) H hj hnb (by omega) (by omega)
      refine ⟨m', vO', vT', ?_, H'⟩
      rw [law12_PostNamed.L0_eq, ← e]
      simp only [c, decide_true] at hc
      simp only [law12_PostNamed.B0, beqT, beqF, exF_seq, exF_region, exF_block, exF_cond, exF_ret, exF_exit, exF_skip, runL, wantL, stepL, evL, evC, LEnv.at, putL, loadFine, loadL, cellsAt, Trk.putNew, Trk.up, Trk.touch, Trk.gives, Trk.calm, Trk.hit, opdsOf, Trk.fresh, LEnv.keep, LEnv.ofFrom, List.map_cons, List.map_nil, nbeq, nble, nblt, ofAV, ofAVs, lenL, bin_add, bin_sub, bin_mul, bin_eql, bin_neq, bin_lss, bin_leq, bin_gtr, bin_geq, natL_nat, natL_zero, natL_one, natL_two, Nat.zero_mul, List.any_cons, List.any_nil, Bool.or_false, Bool.false_or, Bool.true_or, Bool.or_true, Bool.and_true, Bool.true_and, Bool.and_false, Bool.false_and, Bool.not_true, Bool.not_false, Nat.reduceBEq, Nat.reduceEqDiff, decide_true, decide_false, cond_true, cond_false, List.filter_nil, List.filter_cons, Nat.reduceAdd, Nat.reduceLeDiff, reduceCtorEq, List.length_nil, List.length_cons, Nat.mul_one, if_true, if_false, Bool.false_eq_true, eq_self, and_true, true_and, retL, resultsL, resAllL, resOfL, List.append_nil, List.nil_append, List.cons_append, true_or, or_true, false_or, or_false, false_and, and_false, not_true_eq_false, not_false_eq_true, ne_eq, unL, trim_nil, views_pures, LV.pures, LV.pure, freeze, Nat.reduceDiv, Int.reduceEq, Int.reduceLT, Int.reduceLE, Int.natCast_zero, LV.cells, allocL, List.getElem?_cons_zero, List.getElem?_cons_succ, storeL, spliceL, List.take_zero, List.take_succ_cons, List.drop_zero, List.drop_succ_cons, List.drop_nil, List.take_nil, Nat.le_refl, Nat.reduceMul, List.set_cons_zero, List.set_cons_succ, LV.scalar, List.all_cons, List.all_nil, Nat.lt_add_one, Nat.zero_lt_one, Nat.reduceLT, Nat.lt_irrefl, fillL, List.length_append, foldIntL, kind_beq, pures_int, solids_int, plains_int, unders_int, scalars_int, show ((i : Int) < (n : Int)) by omega, hil, h3, hj, Nat.zero_add, hci, hc, hws]
    · rw [if_neg c]
      obtain ⟨m1, m2, vO2, vT2, a1, a2, H2, hoff⟩ := H.app (q[i] : Int) (k : Int) (by simp; omega) (by omega)
      obtain ⟨o1, o2⟩ := hoff jn (List.getElem?_eq_some_iff.1 hj).1 hnb
      rw [ci_app] at H2
      obtain ⟨m', vO', vT', e, H'⟩ := ih (i + 1) m2 vO2 vT2 _ _ (by omega) H2 (by rw [o1]; exact hj) o2 (by simp; omega) (by simp; omega)
      refine ⟨m', vO', vT', ?_, H'⟩
      rw [law12_PostNamed.L0_eq, ← e]
      simp only [c, decide_false] at hc
      have hvx : ∀ (x : Int) m, views m [.int .i64 x] = some ([.int .i64 x], []) := fun x m => views_pures m _ (by simp [LV.pures, LV.pure])
      generalize q[i] = p at *
      simp only [law12_PostNamed.B0, law12_PostNamed.B0.R0, beqT, beqF, exF_seq, exF_region, exF_block, exF_cond, exF_ret, exF_exit, exF_skip, runL, wantL, stepL, evL, evC, LEnv.at, putL, loadFine, loadL, cellsAt, Trk.putNew, Trk.up, Trk.touch, Trk.gives, Trk.calm, Trk.hit, opdsOf, Trk.fresh, LEnv.keep, LEnv.ofFrom, List.map_cons, List.map_nil, nbeq, nble, nblt, ofAV, ofAVs, lenL, bin_add, bin_sub, bin_mul, bin_eql, bin_neq, bin_lss, bin_leq, bin_gtr, bin_geq, natL_nat, natL_zero, natL_one, natL_two, Nat.zero_mul, List.any_cons, List.any_nil, Bool.or_false, Bool.false_or, Bool.true_or, Bool.or_true, Bool.and_true, Bool.true_and, Bool.and_false, Bool.false_and, Bool.not_true, Bool.not_false, Nat.reduceBEq, Nat.reduceEqDiff, decide_true, decide_false, cond_true, cond_false, List.filter_nil, List.filter_cons, Nat.reduceAdd, Nat.reduceLeDiff, reduceCtorEq, List.length_nil, List.length_cons, Nat.mul_one, if_true, if_false, Bool.false_eq_true, eq_self, and_true, true_and, retL, resultsL, resAllL, resOfL, List.append_nil, List.nil_append, List.cons_append, true_or, or_true, false_or, or_false, false_and, and_false, not_true_eq_false, not_false_eq_true, ne_eq, unL, trim_nil, views_pures, LV.pures, LV.pure, freeze, Nat.reduceDiv, Int.reduceEq, Int.reduceLT, Int.reduceLE, Int.natCast_zero, LV.cells, allocL, List.getElem?_cons_zero, List.getElem?_cons_succ, storeL, spliceL, List.take_zero, List.take_succ_cons, List.drop_zero, List.drop_succ_cons, List.drop_nil, List.take_nil, Nat.le_refl, Nat.reduceMul, List.set_cons_zero, List.set_cons_succ, LV.scalar, List.all_cons, List.all_nil, Nat.lt_add_one, Nat.zero_lt_one, Nat.reduceLT, Nat.lt_irrefl, fillL, List.length_append, foldIntL, kind_beq, pures_int, solids_int, plains_int, unders_int, scalars_int, show ((i : Int) < (n : Int)) by omega, hil, h3, hj, Nat.zero_add, hci, hc, hvx, freeze_nil, a1, a2, hws]
theorem near_ne {s : List Int} (K : OkS s) {v : Nat} (hv : v < s.length) (turn : Bool) : nearL s turn v ≠ [] := fun e => by
  have : v ∈ nearL s turn v := (near_mem K hv turn v).2 ⟨hv, by unfold nb; simp⟩
  rw [e] at this; cases this
theorem named_r0 (dd : Bool) {s : List Int} (K : OkS s) (Tn S N vO vT W : LV) (O : List Nat) (T : List Int) (k : Nat) (m : LMem) (H : Two m vO vT (ci O) T) (hk : k < O.length) (hlt : ∀ x ∈ O, x < s.length) :
    exF LP law12_PostNamed.B1.R0 [(2, Tn), (7, S), (8, UD dd (handsV s)), (9, N), (10, vO), (11, vT), (12, .int .i64 (k : Int)), (48, W)] m =
      some (.normal, [(2, Tn), (7, S), (8, UD dd (handsV s)), (9, N), (10, vO), (11, vT), (12, .int .i64 (k : Int)), (13, .sl m.length 0 (memL (hd s (O.getD k 0))).length (memL (hd s (O.getD k 0))).length 1 1 (memL (hd s (O.getD k 0))).length)], m ++ [⟨ints (ci (memL (hd s (O.getD k 0)))), true⟩]) := by
  have hv : O.getD k 0 < s.length := hlt _ (getD_mem hk)
  have hx : (ints (ci O))[k]? = some (.int .i64 ((O.getD k 0 : Nat) : Int)) := by
    rw [ci_at O k hk, List.getD_eq_getElem?_getD, List.getElem?_eq_getElem hk]; rfl
  have hcl : (ints (ci O)).length = O.length := by simp
  have hcl2 : (ci O).length = O.length := by simp
  generalize O.getD k 0 = v at *
  have hlen : v < (handsV s).length := by rw [handsV_length]; exact hv
  have hn : (nats (handsV s))[v]? = some (.int .u64 ((hd s v : Nat) : Int)) := nats_getD (handsV s) v hlen
  have hh : hd s v < 1024 := hands_lt K v
  have hme := memb_o hh m
  have hne : ci (memL (hd s v)) ≠ [] := by
    have := near_ne K hv false
    simpa [nearL] using this
  have hme : clF LP n_law12_members [.int .u64 ((hd s v : Nat) : Int)] m = some (.O, .sl m.length 0 (memL (hd s v)).length (memL (hd s v)).length 1 1 (memL (hd s v)).length, m ++ [⟨ints (ci (memL (hd s v))), true⟩]) := by
    rw [hme]; unfold GV GM; rw [if_neg hne, if_neg hne, ci_ln]
  generalize m ++ [⟨ints (ci (memL (hd s v))), true⟩] = M2 at *
  generalize LV.sl m.length 0 (memL (hd s v)).length (memL (hd s v)).length 1 1 (memL (hd s v)).length = VN at *
  generalize hd s v = x at *
  rcases H with ⟨h1, _, h3, _⟩ | ⟨a, b, _, h2, _, h4, _⟩
  · have hk1 : k < 1 := by rw [ci_ln] at h1; omega
    subst h3
    simp only [law12_PostNamed.B1.R0, beqT, beqF, exF_seq, exF_region, exF_block, exF_cond, exF_ret, exF_exit, exF_skip, runL, wantL, stepL, evL, evC, LEnv.at, putL, loadFine, loadL, cellsAt, Trk.putNew, Trk.up, Trk.touch, Trk.gives, Trk.calm, Trk.hit, opdsOf, Trk.fresh, LEnv.keep, LEnv.ofFrom, List.map_cons, List.map_nil, nbeq, nble, nblt, ofAV, ofAVs, lenL, bin_add, bin_sub, bin_mul, bin_eql, bin_neq, bin_lss, bin_leq, bin_gtr, bin_geq, natL_nat, natL_zero, natL_one, natL_two, Nat.zero_mul, List.any_cons, List.any_nil, Bool.or_false, Bool.false_or, Bool.true_or, Bool.or_true, Bool.and_true, Bool.true_and, Bool.and_false, Bool.false_and, Bool.not_true, Bool.not_false, Nat.reduceBEq, Nat.reduceEqDiff, decide_true, decide_false, cond_true, cond_false, List.filter_nil, List.filter_cons, Nat.reduceAdd, Nat.reduceLeDiff, reduceCtorEq, List.length_nil, List.length_cons, Nat.mul_one, if_true, if_false, Bool.false_eq_true, eq_self, and_true, true_and, retL, resultsL, resAllL, resOfL, List.append_nil, List.nil_append, List.cons_append, true_or, or_true, false_or, or_false, false_and, and_false, not_true_eq_false, not_false_eq_true, ne_eq, unL, trim_nil, views_pures, LV.pures, LV.pure, freeze, Nat.reduceDiv, Int.reduceEq, Int.reduceLT, Int.reduceLE, Int.natCast_zero, LV.cells, allocL, List.getElem?_cons_zero, List.getElem?_cons_succ, storeL, spliceL, List.take_zero, List.take_succ_cons, List.drop_zero, List.drop_succ_cons, List.drop_nil, List.take_nil, Nat.le_refl, Nat.reduceMul, List.set_cons_zero, List.set_cons_succ, LV.scalar, List.all_cons, List.all_nil, Nat.lt_add_one, Nat.zero_lt_one, Nat.reduceLT, Nat.lt_irrefl, fillL, List.length_append, foldIntL, kind_beq, pures_int, solids_int, plains_int, unders_int, scalars_int, hk1, hx, hlen, hn, hme]
  · subst h2
    simp only [law12_PostNamed.B1.R0, beqT, beqF, exF_seq, exF_region, exF_block, exF_cond, exF_ret, exF_exit, exF_skip, runL, wantL, stepL, evL, evC, LEnv.at, putL, loadFine, loadL, cellsAt, Trk.putNew, Trk.up, Trk.touch, Trk.gives, Trk.calm, Trk.hit, opdsOf, Trk.fresh, LEnv.keep, LEnv.ofFrom, List.map_cons, List.map_nil, nbeq, nble, nblt, ofAV, ofAVs, lenL, bin_add, bin_sub, bin_mul, bin_eql, bin_neq, bin_lss, bin_leq, bin_gtr, bin_geq, natL_nat, natL_zero, natL_one, natL_two, Nat.zero_mul, List.any_cons, List.any_nil, Bool.or_false, Bool.false_or, Bool.true_or, Bool.or_true, Bool.and_true, Bool.true_and, Bool.and_false, Bool.false_and, Bool.not_true, Bool.not_false, Nat.reduceBEq, Nat.reduceEqDiff, decide_true, decide_false, cond_true, cond_false, List.filter_nil, List.filter_cons, Nat.reduceAdd, Nat.reduceLeDiff, reduceCtorEq, List.length_nil, List.length_cons, Nat.mul_one, if_true, if_false, Bool.false_eq_true, eq_self, and_true, true_and, retL, resultsL, resAllL, resOfL, List.append_nil, List.nil_append, List.cons_append, true_or, or_true, false_or, or_false, false_and, and_false, not_true_eq_false, not_false_eq_true, ne_eq, unL, trim_nil, views_pures, LV.pures, LV.pure, freeze, Nat.reduceDiv, Int.reduceEq, Int.reduceLT, Int.reduceLE, Int.natCast_zero, LV.cells, allocL, List.getElem?_cons_zero, List.getElem?_cons_succ, storeL, spliceL, List.take_zero, List.take_succ_cons, List.drop_zero, List.drop_succ_cons, List.drop_nil, List.take_nil, Nat.le_refl, Nat.reduceMul, List.set_cons_zero, List.set_cons_succ, LV.scalar, List.all_cons, List.all_nil, Nat.lt_add_one, Nat.zero_lt_one, Nat.reduceLT, Nat.lt_irrefl, fillL, List.length_append, foldIntL, kind_beq, pures_int, solids_int, plains_int, unders_int, scalars_int, hcl2, hk, h4, hcl, Nat.zero_add, hx, hlen, hn, hme]
theorem named_outer (turn dd : Bool) {s : List Int} (K : OkS s) (S N : LV) (f : Nat) : ∀ (k : Nat) (m : LMem) (vO vT : LV) (O : List Nat) (T : List Int), s.length ≤ f + k → Two m vO vT (ci O) T → Inv s k O T →
    ∃ m' vO' vT', exF LP law12_PostNamed.L1 [(2, .bool turn), (7, S), (8, UD dd (handsV s)), (9, N), (10, vO), (11, vT), (12, .int .i64 (k : Int))] m =
      some (.exit 0, [(7, S), (9, N), (10, vO'), (11, vT')], m') ∧ Two m' vO' vT' (ci (bfs s turn f k O T).1) (bfs s turn f k O T).2 := by
  have hle := K.le
  induction f with
  | zero =>
    intro k m vO vT O T hf H I
    have := I.le
    have l0 := H.lenO
    rw [ci_ln] at l0
    refine ⟨m, vO, vT, ?_, H⟩
    rw [law12_PostNamed.L1_eq]
    simp only [law12_PostNamed.B1, beqT, beqF, exF_seq, exF_region, exF_block, exF_cond, exF_ret, exF_exit, exF_skip, runL, wantL, stepL, evL, evC, LEnv.at, putL, loadFine, loadL, cellsAt, Trk.putNew, Trk.up, Trk.touch, Trk.gives, Trk.calm, Trk.hit, opdsOf, Trk.fresh, LEnv.keep, LEnv.ofFrom, List.map_cons, List.map_nil, nbeq, nble, nblt, ofAV, ofAVs, bin_add, bin_sub, bin_mul, bin_eql, bin_neq, bin_lss, bin_leq, bin_gtr, bin_geq, natL_nat, natL_zero, natL_one, natL_two, Nat.zero_mul, List.any_cons, List.any_nil, Bool.or_false, Bool.false_or, Bool.true_or, Bool.or_true, Bool.and_true, Bool.true_and, Bool.and_false, Bool.false_and, Bool.not_true, Bool.not_false, Nat.reduceBEq, Nat.reduceEqDiff, decide_true, decide_false, cond_true, cond_false, List.filter_nil, List.filter_cons, Nat.reduceAdd, Nat.reduceLeDiff, reduceCtorEq, List.length_nil, List.length_cons, Nat.mul_one, if_true, if_false, Bool.false_eq_true, eq_self, and_true, true_and, retL, resultsL, resAllL, resOfL, List.append_nil, List.nil_append, List.cons_append, true_or, or_true, false_or, or_false, false_and, and_false, not_true_eq_false, not_false_eq_true, ne_eq, unL, trim_nil, views_pures, LV.pures, LV.pure, freeze, Nat.reduceDiv, Int.reduceEq, Int.reduceLT, Int.reduceLE, Int.natCast_zero, LV.cells, allocL, List.getElem?_cons_zero, List.getElem?_cons_succ, storeL, spliceL, List.take_zero, List.take_succ_cons, List.drop_zero, List.drop_succ_cons, List.drop_nil, List.take_nil, Nat.le_refl, Nat.reduceMul, List.set_cons_zero, List.set_cons_succ, LV.scalar, List.all_cons, List.all_nil, Nat.lt_add_one, Nat.zero_lt_one, Nat.reduceLT, Nat.lt_irrefl, fillL, List.length_append, foldIntL, kind_beq, pures_int, solids_int, plains_int, unders_int, scalars_int, l0, show ¬ ((k : Int) < (O.length : Int)) by omega]
  | succ f ih =>
    intro k m vO vT O T hf H I
    have hOl := I.le
    have hTl := I.len
    have l0 := H.lenO
    rw [ci_ln] at l0
    rw [bfs]
    by_cases c : k < O.length
    · rw [if_pos c]
      have r0 := named_r0 dd K (.bool turn) S N vO vT (.bool true) O T k m H c I.lt
      have hv : O.getD k 0 < s.length := I.lt _ (getD_mem c)
      have I2 := inv_step K turn I c
      have h10 := memL_len (hd s (O.getD k 0))
      have hne := near_ne K hv turn
      -- the list, turned or not
      have key : ∃ m2, m2[m.length]? = some ⟨ints (ci (nearL s turn (O.getD k 0))), true⟩ ∧ (∀ i, i < m.length → m2[i]? = m[i]?) ∧ (turn = true → clF LP n_slices_Reverse_int_int [.sl m.length 0 (memL (hd s (O.getD k 0))).length (memL (hd s (O.getD k 0))).length 1 1 (memL (hd s (O.getD k 0))).length] (m ++ [⟨ints (ci (memL (hd s (O.getD k 0)))), true⟩]) = some (.W, .tup [], m2)) ∧ (turn = false → m2 = m ++ [⟨ints (ci (memL (hd s (O.getD k 0)))), true⟩]) := by
        have hat : (m ++ [⟨ints (ci (memL (hd s (O.getD k 0)))), true⟩])[m.length]? = some ⟨ints (ci (memL (hd s (O.getD k 0)))), true⟩ := by simp
        cases turn
        · exact ⟨_, hat, fun i hi => List.getElem?_append_left hi, (fun e => by cases e), fun _ => rfl⟩
        · have hpos : 1 ≤ (memL (hd s (O.getD k 0))).length := by
            have : memL (hd s (O.getD k 0)) ≠ [] := by
              have := near_ne K hv false
              simpa [nearL] using this
            cases hm : memL (hd s (O.getD k 0)) with
            | nil => exact absurd hm this
            | cons a r => simp
          obtain ⟨m2, e1, e2, e3, e4⟩ := rev_w (ci (memL (hd s (O.getD k 0)))) (memL (hd s (O.getD k 0))).length (ci_ln _) (by omega) hpos m.length _ hat
          refine ⟨m2, ?_, fun i hi => ?_, fun _ => e1, fun e => by cases e⟩
          · rw [e2]
            simp [nearL, ci]
          · rw [e3 i (by omega), List.getElem?_append_left hi]
      obtain ⟨m2, k1, k2, k3, k4⟩ := key
      have hnl : (nearL s turn (O.getD k 0)).length = (memL (hd s (O.getD k 0))).length := by
        unfold nearL
        split
        · rw [List.length_reverse]
        · rfl
      have H2 : Two m2 vO vT (ci O) T := H.mono fun i hi => k2 i (H.lt hi)
      obtain ⟨m3, vO3, vT3, e3, H3⟩ := named_inner (.bool turn) S (UD dd (handsV s)) N k (nearL s turn (O.getD k 0)) (memL (hd s (O.getD k 0))).length hnl (by omega) m.length (memL (hd s (O.getD k 0))).length 0 m2 vO vT O T (by omega) H2 k1 (fun e => by have := H.lt e; omega) (by omega) (by omega)
      rw [List.drop_zero] at H3
      obtain ⟨m', vO', vT', e4, H4⟩ := ih (k + 1) m3 vO3 vT3 _ _ (by omega) H3 I2
      refine ⟨m', vO', vT', ?_, H4⟩
      rw [law12_PostNamed.L1_eq, ← e4]
      have hws := wrap_succ (show k + 1 < 9223372036854775808 by omega)
      simp only [Int.natCast_zero] at e3
      have lN : ∀ a b : Nat, lenL (.sl a 0 b b 1 1 b) = some b := fun _ _ => rfl
      generalize UD dd (handsV s) = Hv at *
      generalize (memL (hd s (O.getD k 0))).length = ln at *
      have hlk : (k : Int) < (O.length : Int) := by omega
      cases turn
      · have k4 := k4 rfl
        rw [← k4] at r0
        simp only [law12_PostNamed.B1, beqT, beqF, exF_seq, exF_region, exF_block, exF_cond, exF_ret, exF_exit, exF_skip, runL, wantL, stepL, evL, evC, LEnv.at, putL, loadFine, loadL, cellsAt, Trk.putNew, Trk.up, Trk.touch, Trk.gives, Trk.calm, Trk.hit, opdsOf, Trk.fresh, LEnv.keep, LEnv.ofFrom, List.map_cons, List.map_nil, nbeq, nble, nblt, ofAV, ofAVs, bin_add, bin_sub, bin_mul, bin_eql, bin_neq, bin_lss, bin_leq, bin_gtr, bin_geq, natL_nat, natL_zero, natL_one, natL_two, Nat.zero_mul, List.any_cons, List.any_nil, Bool.or_false, Bool.false_or, Bool.true_or, Bool.or_true, Bool.and_true, Bool.true_and, Bool.and_false, Bool.false_and, Bool.not_true, Bool.not_false, Nat.reduceBEq, Nat.reduceEqDiff, decide_true, decide_false, cond_true, cond_false, List.filter_nil, List.filter_cons, Nat.reduceAdd, Nat.reduceLeDiff, reduceCtorEq, List.length_nil, List.length_cons, Nat.mul_one, if_true, if_false, Bool.false_eq_true, eq_self, and_true, true_and, retL, resultsL, resAllL, resOfL, List.append_nil, List.nil_append, List.cons_append, true_or, or_true, false_or, or_false, false_and, and_false, not_true_eq_false, not_false_eq_true, ne_eq, unL, trim_nil, views_pures, LV.pures, LV.pure, freeze, Nat.reduceDiv, Int.reduceEq, Int.reduceLT, Int.reduceLE, Int.natCast_zero, LV.cells, allocL, List.getElem?_cons_zero, List.getElem?_cons_succ, storeL, spliceL, List.take_zero, List.take_succ_cons, List.drop_zero, List.drop_succ_cons, List.drop_nil, List.take_nil, Nat.le_refl, Nat.reduceMul, List.set_cons_zero, List.set_cons_succ, LV.scalar, List.all_cons, List.all_nil, Nat.lt_add_one, Nat.zero_lt_one, Nat.reduceLT, Nat.lt_irrefl, fillL, List.length_append, foldIntL, kind_beq, pures_int, solids_int, plains_int, unders_int, scalars_int, l0, lN, hlk, r0, e3, hws]
      · have k3 := k3 rfl
        generalize m ++ [⟨ints (ci (memL (hd s (O.getD k 0)))), true⟩] = M1 at *
        simp only [law12_PostNamed.B1, beqT, beqF, exF_seq, exF_region, exF_block, exF_cond, exF_ret, exF_exit, exF_skip, runL, wantL, stepL, evL, evC, LEnv.at, putL, loadFine, loadL, cellsAt, Trk.putNew, Trk.up, Trk.touch, Trk.gives, Trk.calm, Trk.hit, opdsOf, Trk.fresh, LEnv.keep, LEnv.ofFrom, List.map_cons, List.map_nil, nbeq, nble, nblt, ofAV, ofAVs, bin_add, bin_sub, bin_mul, bin_eql, bin_neq, bin_lss, bin_leq, bin_gtr, bin_geq, natL_nat, natL_zero, natL_one, natL_two, Nat.zero_mul, List.any_cons, List.any_nil, Bool.or_false, Bool.false_or, Bool.true_or, Bool.or_true, Bool.and_true, Bool.true_and, Bool.and_false, Bool.false_and, Bool.not_true, Bool.not_false, Nat.reduceBEq, Nat.reduceEqDiff, decide_true, decide_false, cond_true, cond_false, List.filter_nil, List.filter_cons, Nat.reduceAdd, Nat.reduceLeDiff, reduceCtorEq, List.length_nil, List.length_cons, Nat.mul_one, if_true, if_false, Bool.false_eq_true, eq_self, and_true, true_and, retL, resultsL, resAllL, resOfL, List.append_nil, List.nil_append, List.cons_append, true_or, or_true, false_or, or_false, false_and, and_false, not_true_eq_false, not_false_eq_true, ne_eq, unL, trim_nil, views_pures, LV.pures, LV.pure, freeze, Nat.reduceDiv, Int.reduceEq, Int.reduceLT, Int.reduceLE, Int.natCast_zero, LV.cells, allocL, List.getElem?_cons_zero, List.getElem?_cons_succ, storeL, spliceL, List.take_zero, List.take_succ_cons, List.drop_zero, List.drop_succ_cons, List.drop_nil, List.take_nil, Nat.le_refl, Nat.reduceMul, List.set_cons_zero, List.set_cons_succ, LV.scalar, List.all_cons, List.all_nil, Nat.lt_add_one, Nat.zero_lt_one, Nat.reduceLT, Nat.lt_irrefl, fillL, List.length_append, foldIntL, kind_beq, pures_int, solids_int, plains_int, unders_int, scalars_int, l0, lN, hlk, r0, k3, e3, hws]
    · rw [if_neg c]
      refine ⟨m, vO, vT, ?_, H⟩
      rw [law12_PostNamed.L1_eq]
      simp only [law12_PostNamed.B1, beqT, beqF, exF_seq, exF_region, exF_block, exF_cond, exF_ret, exF_exit, exF_skip, runL, wantL, stepL, evL, evC, LEnv.at, putL, loadFine, loadL, cellsAt, Trk.putNew, Trk.up, Trk.touch, Trk.gives, Trk.calm, Trk.hit, opdsOf, Trk.fresh, LEnv.keep, LEnv.ofFrom, List.map_cons, List.map_nil, nbeq, nble, nblt, ofAV, ofAVs, bin_add, bin_sub, bin_mul, bin_eql, bin_neq, bin_lss, bin_leq, bin_gtr, bin_geq, natL_nat, natL_zero, natL_one, natL_two, Nat.zero_mul, List.any_cons, List.any_nil, Bool.or_false, Bool.false_or, Bool.true_or, Bool.or_true, Bool.and_true, Bool.true_and, Bool.and_false, Bool.false_and, Bool.not_true, Bool.not_false, Nat.reduceBEq, Nat.reduceEqDiff, decide_true, decide_false, cond_true, cond_false, List.filter_nil, List.filter_cons, Nat.reduceAdd, Nat.reduceLeDiff, reduceCtorEq, List.length_nil, List.length_cons, Nat.mul_one, if_true, if_false, Bool.false_eq_true, eq_self, and_true, true_and, retL, resultsL, resAllL, resOfL, List.append_nil, List.nil_append, List.cons_append, true_or, or_true, false_or, or_false, false_and, and_false, not_true_eq_false, not_false_eq_true, ne_eq, unL, trim_nil, views_pures, LV.pures, LV.pure, freeze, Nat.reduceDiv, Int.reduceEq, Int.reduceLT, Int.reduceLE, Int.natCast_zero, LV.cells, allocL, List.getElem?_cons_zero, List.getElem?_cons_succ, storeL, spliceL, List.take_zero, List.take_succ_cons, List.drop_zero, List.drop_succ_cons, List.drop_nil, List.take_nil, Nat.le_refl, Nat.reduceMul, List.set_cons_zero, List.set_cons_succ, LV.scalar, List.all_cons, List.all_nil, Nat.lt_add_one, Nat.zero_lt_one, Nat.reduceLT, Nat.lt_irrefl, fillL, List.length_append, foldIntL, kind_beq, pures_int, solids_int, plains_int, unders_int, scalars_int, l0, show ¬ ((k : Int) < (O.length : Int)) by omega]
end Go.Am.Post

/-
  What functions of chapter 12 compute, by tables, members handed over, other names 5: the law 'PostNamed'.
-/
set_option linter.unusedVariables false
set_option linter.unusedSimpArgs false
set_option maxRecDepth 10000
set_option maxHeartbeats 400000
namespace Go.Am.Post
open Go.Am.G

def RV (l : List Nat) : LV := RLn l
theorem RV_len (l : List Nat) : lenL (RV l) = some l.length := by simp [RV, lenL]
section
variable (b : Bool) {s : List Int} (K : OkS s) (m : LMem)
include K
theorem fewR : clF LP n_post_Fewest [IL false b 1 s] m = some (.P, .tup [RV (firstS s (fun _ => 1)), .int .i64 0], m) := few_v b K m
theorem aptR : clF LP n_post_Apart [IL false b 1 s] m = some (.P, .tup [RV (grM (hd s) s.length 0 0), .int .i64 0], m) := by
  have h := apartP_c false b 1 s (by have := K.le; omega) m
  rw [aptV, K.chk, if_pos rfl] at h
  exact h
theorem countR : clF LP n_post_Count [IL false b 1 s] m = some (.P, .tup [.int .i64 (cntV s : Int), .int .i64 0], m) := by
  have h := countP_c false b 1 s (by have := K.le; omega) m
  rw [K.chk] at h
  exact h
theorem waysR : clF LP n_post_Ways [IL false b 1 s] m = some (.P, .tup [.int .i64 (wayV s : Int), .int .i64 0], m) := by
  have h := waysP_c false b 1 s (by have := K.le; omega) m
  rw [K.chk] at h
  exact h
theorem alwR : clF LP n_post_Always [IL false b 1 s] m = some (.P, .tup [RV (askV s (fun _ => 0) (fun x => x)), .int .i64 0], m) := by
  have h := alwaysP_c false b 1 s (by have := K.le; omega) m
  rw [K.chk] at h
  exact h
end

/-! ### Calls that look at the second list -/
def Pair (m : LMem) (vO vT : LV) (O T : List Int) : Prop :=
  (O.length = 1 ∧ T.length = 1 ∧ vO = .lst false true 1 1 (ints O) ∧ vT = .lst false true 1 1 (ints T)) ∨
  ∃ a b o1 o2, a ≠ b ∧ vO = .sl a 0 O.length O.length 1 1 O.length ∧ vT = .sl b 0 T.length T.length 1 1 T.length ∧ m[a]? = some ⟨ints O, o1⟩ ∧ m[b]? = some ⟨ints T, o2⟩
theorem Two.pair {m : LMem} {vO vT : LV} {O T : List Int} (H : Two m vO vT O T) : Pair m vO vT O T := by
  rcases H with H | ⟨a, b, h1, h2, h3, h4, h5, _⟩
  · exact .inl H
  · exact .inr ⟨a, b, true, true, h1, h2, h3, h4, h5⟩
theorem call_sh {C : LProg} {f : Nat} {lf : LFunc} (hC : C f = some lf) (hm : lf.mode = .P) {args vs : List LV} {ids : List Nat} {m : LMem} (hv : views m args = some (vs, ids)) (hp : LV.pures vs = true) {v : LV} (hc : clF C f vs [] = some (.P, v, [])) : clF C f args m = some (.P, v, m) ∨ clF C f args m = some (.P, v, freeze ids m) := by
  rw [clF_eq, hC] at hc ⊢
  simp only [callMode, hm, views_pures [] vs hp, hv] at hc ⊢
  split at hc
  · rename_i v1 m1 hr
    split at hc
    · rename_i v2 ids1 hv2
      simp only [Option.some.injEq, Prod.mk.injEq] at hc
      obtain ⟨_, rfl, _⟩ := hc
      cases (ids.isEmpty || (v2.plain || newIds v1 m1 ids1))
      · exact .inr rfl
      · exact .inl rfl
    · cases hc
  · cases hc
theorem Pair.call {m : LMem} {vO vT : LV} {O T : List Int} (H : Pair m vO vT O T) {f : Nat} {lf : LFunc} (hC : LP f = some lf) (hmd : lf.mode = .P) {v : LV} (hc : ∀ b m, clF LP f [IL false b 1 T] m = some (.P, v, m)) : ∃ m', clF LP f [vT] m = some (.P, v, m') ∧ Pair m' vO vT O T := by
  rcases H with ⟨h1, h2, h3, h4⟩ | ⟨a, b, o1, o2, h1, h2, h3, h4, h5⟩
  · refine ⟨m, ?_, .inl ⟨h1, h2, h3, h4⟩⟩
    have : clF LP f [.lst false true 1 T.length (ints T)] m = some (.P, v, m) := hc true m
    rw [h2] at this
    rw [h4]; exact this
  · have hv : views m [vT] = some ([IL false false 1 T], [b]) := by
      rw [h3]
      by_cases c : T = []
      · subst c
        exact views_one 32 m _ _ _ (view_at rfl h5) (by simp [LV.pures, LV.pure])
      · exact views_one 32 m _ _ _ (view_at rfl h5) (by simp [LV.pures, LV.pure])
    rcases call_sh hC hmd hv (by simp [LV.pures, LV.pure]) (hc false []) with h | h
    · exact ⟨m, h, .inr ⟨a, b, o1, o2, h1, h2, h3, h4, h5⟩⟩
    · refine ⟨_, h, .inr ⟨a, b, o1, false, h1, h2, h3, ?_, ?_⟩⟩
      · rw [Go.Am.G.freeze_get a [b] m (by simp [h1])]; exact h4
      · have hb := (List.getElem?_eq_some_iff.1 h5).1
        simp only [freeze, freeze1, h5]
        rw [List.getElem?_set_self hb]

/-! ### The ends -/
theorem named_R0 (S N vO vT A B : LV) (l : Nat) (hA : lenL A = some l) (hB : lenL B = some l) (m : LMem) :
    exF LP law12_PostNamed.B.R0 [(7, S), (9, N), (10, vO), (11, vT), (16, A), (17, .int .i64 0), (18, B), (19, .int .i64 0)] m = some (.normal, [(7, S), (9, N), (10, vO), (11, vT), (103, .bool false)], m) := by
  simp (maxSteps := 1000000) only [law12_PostNamed.B.R0, beqT, beqF, exF_seq, exF_region, exF_block, exF_cond, exF_ret, exF_exit, exF_skip, runL, wantL, stepL, evL, evC, LEnv.at, putL, loadFine, loadL, cellsAt, Trk.putNew, Trk.up, Trk.touch, Trk.gives, Trk.calm, Trk.hit, opdsOf, Trk.fresh, LEnv.keep, LEnv.ofFrom, List.map_cons, List.map_nil, nbeq, nble, nblt, ofAV, ofAVs, bin_add, bin_sub, bin_mul, bin_eql, bin_neq, bin_lss, bin_leq, bin_gtr, bin_geq, natL_nat, natL_zero, natL_one, natL_two, Nat.zero_mul, List.any_cons, List.any_nil, Bool.or_false, Bool.false_or, Bool.true_or, Bool.or_true, Bool.and_true, Bool.true_and, Bool.and_false, Bool.false_and, Bool.not_true, Bool.not_false, Nat.reduceBEq, Nat.reduceEqDiff, decide_true, decide_false, cond_true, cond_false, List.filter_nil, List.filter_cons, Nat.reduceAdd, Nat.reduceLeDiff, reduceCtorEq, List.length_nil, List.length_cons, Nat.mul_one, if_true, if_false, Bool.false_eq_true, eq_self, and_true, true_and, retL, resultsL, resAllL, resOfL, List.append_nil, List.nil_append, List.cons_append, true_or, or_true, false_or, or_false, false_and, and_false, not_true_eq_false, not_false_eq_true, ne_eq, unL, trim_nil, views_pures, LV.pures, LV.pure, freeze, Nat.reduceDiv, Int.reduceEq, Int.reduceLT, Int.reduceLE, Int.natCast_zero, LV.cells, allocL, List.getElem?_cons_zero, List.getElem?_cons_succ, storeL, spliceL, List.take_zero, List.take_succ_cons, List.drop_zero, List.drop_succ_cons, List.drop_nil, List.take_nil, Nat.le_refl, Nat.reduceMul, List.set_cons_zero, List.set_cons_succ, LV.scalar, List.all_cons, List.all_nil, Nat.lt_add_one, Nat.zero_lt_one, Nat.reduceLT, Nat.lt_irrefl, fillL, List.length_append, foldIntL, kind_beq, pures_int, solids_int, plains_int, unders_int, scalars_int, hA, hB]
theorem named_R1 (S N vO vT A B : LV) (l : Nat) (hA : lenL A = some l) (hB : lenL B = some l) (m : LMem) :
    exF LP law12_PostNamed.B.R1 [(7, S), (9, N), (10, vO), (11, vT), (16, A), (17, .int .i64 0), (18, B), (19, .int .i64 0)] m = some (.normal, [(7, S), (9, N), (10, vO), (11, vT), (126, .bool false)], m) := by
  simp (maxSteps := 1000000) only [law12_PostNamed.B.R1, beqT, beqF, exF_seq, exF_region, exF_block, exF_cond, exF_ret, exF_exit, exF_skip, runL, wantL, stepL, evL, evC, LEnv.at, putL, loadFine, loadL, cellsAt, Trk.putNew, Trk.up, Trk.touch, Trk.gives, Trk.calm, Trk.hit, opdsOf, Trk.fresh, LEnv.keep, LEnv.ofFrom, List.map_cons, List.map_nil, nbeq, nble, nblt, ofAV, ofAVs, bin_add, bin_sub, bin_mul, bin_eql, bin_neq, bin_lss, bin_leq, bin_gtr, bin_geq, natL_nat, natL_zero, natL_one, natL_two, Nat.zero_mul, List.any_cons, List.any_nil, Bool.or_false, Bool.false_or, Bool.true_or, Bool.or_true, Bool.and_true, Bool.true_and, Bool.and_false, Bool.false_and, Bool.not_true, Bool.not_false, Nat.reduceBEq, Nat.reduceEqDiff, decide_true, decide_false, cond_true, cond_false, List.filter_nil, List.filter_cons, Nat.reduceAdd, Nat.reduceLeDiff, reduceCtorEq, List.length_nil, List.length_cons, Nat.mul_one, if_true, if_false, Bool.false_eq_true, eq_self, and_true, true_and, retL, resultsL, resAllL, resOfL, List.append_nil, List.nil_append, List.cons_append, true_or, or_true, false_or, or_false, false_and, and_false, not_true_eq_false, not_false_eq_true, ne_eq, unL, trim_nil, views_pures, LV.pures, LV.pure, freeze, Nat.reduceDiv, Int.reduceEq, Int.reduceLT, Int.reduceLE, Int.natCast_zero, LV.cells, allocL, List.getElem?_cons_zero, List.getElem?_cons_succ, storeL, spliceL, List.take_zero, List.take_succ_cons, List.drop_zero, List.drop_succ_cons, List.drop_nil, List.take_nil, Nat.le_refl, Nat.reduceMul, List.set_cons_zero, List.set_cons_succ, LV.scalar, List.all_cons, List.all_nil, Nat.lt_add_one, Nat.zero_lt_one, Nat.reduceLT, Nat.lt_irrefl, fillL, List.length_append, foldIntL, kind_beq, pures_int, solids_int, plains_int, unders_int, scalars_int, hA, hB]
theorem named_R2 (S N vO vT : LV) (k u : Int) (m : LMem) :
    exF LP law12_PostNamed.B.R2 [(7, S), (9, N), (10, vO), (11, vT), (17, .int .i64 0), (19, .int .i64 0), (20, .int .i64 k), (21, .int .i64 k), (22, .int .i64 u), (23, .int .i64 0), (24, .int .i64 u), (25, .int .i64 0)] m = some (.normal, [(7, S), (9, N), (10, vO), (11, vT), (170, .bool false)], m) := by
  simp (maxSteps := 1000000) only [law12_PostNamed.B.R2, beqT, beqF, exF_seq, exF_region, exF_block, exF_cond, exF_ret, exF_exit, exF_skip, runL, wantL, stepL, evL, evC, LEnv.at, putL, loadFine, loadL, cellsAt, Trk.putNew, Trk.up, Trk.touch, Trk.gives, Trk.calm, Trk.hit, opdsOf, Trk.fresh, LEnv.keep, LEnv.ofFrom, List.map_cons, List.map_nil, nbeq, nble, nblt, ofAV, ofAVs, bin_add, bin_sub, bin_mul, bin_eql, bin_neq, bin_lss, bin_leq, bin_gtr, bin_geq, natL_nat, natL_zero, natL_one, natL_two, Nat.zero_mul, List.any_cons, List.any_nil, Bool.or_false, Bool.false_or, Bool.true_or, Bool.or_true, Bool.and_true, Bool.true_and, Bool.and_false, Bool.false_and, Bool.not_true, Bool.not_false, Nat.reduceBEq, Nat.reduceEqDiff, decide_true, decide_false, cond_true, cond_false, List.filter_nil, List.filter_cons, Nat.reduceAdd, Nat.reduceLeDiff, reduceCtorEq, List.length_nil, List.length_cons, Nat.mul_one, if_true, if_false, Bool.false_eq_true, eq_self, and_true, true_and, retL, resultsL, resAllL, resOfL, List.append_nil, List.nil_append, List.cons_append, true_or, or_true, false_or, or_false, false_and, and_false, not_true_eq_false, not_false_eq_true, ne_eq, unL, trim_nil, views_pures, LV.pures, LV.pure, freeze, Nat.reduceDiv, Int.reduceEq, Int.reduceLT, Int.reduceLE, Int.natCast_zero, LV.cells, allocL, List.getElem?_cons_zero, List.getElem?_cons_succ, storeL, spliceL, List.take_zero, List.take_succ_cons, List.drop_zero, List.drop_succ_cons, List.drop_nil, List.take_nil, Nat.le_refl, Nat.reduceMul, List.set_cons_zero, List.set_cons_succ, LV.scalar, List.all_cons, List.all_nil, Nat.lt_add_one, Nat.zero_lt_one, Nat.reduceLT, Nat.lt_irrefl, fillL, List.length_append, foldIntL, kind_beq, pures_int, solids_int, plains_int, unders_int, scalars_int]
theorem named_R3 (N vO A B : LV) (l : Nat) (hA : lenL A = some l) (hB : lenL B = some l) (m : LMem) :
    exF LP law12_PostNamed.B.R3 [(9, N), (10, vO), (17, .int .i64 0), (19, .int .i64 0), (26, A), (27, B)] m = some (.normal, [(9, N), (10, vO), (26, A), (27, B), (193, .bool false)], m) := by
  simp (maxSteps := 1000000) only [law12_PostNamed.B.R3, beqT, beqF, exF_seq, exF_region, exF_block, exF_cond, exF_ret, exF_exit, exF_skip, runL, wantL, stepL, evL, evC, LEnv.at, putL, loadFine, loadL, cellsAt, Trk.putNew, Trk.up, Trk.touch, Trk.gives, Trk.calm, Trk.hit, opdsOf, Trk.fresh, LEnv.keep, LEnv.ofFrom, List.map_cons, List.map_nil, nbeq, nble, nblt, ofAV, ofAVs, bin_add, bin_sub, bin_mul, bin_eql, bin_neq, bin_lss, bin_leq, bin_gtr, bin_geq, natL_nat, natL_zero, natL_one, natL_two, Nat.zero_mul, List.any_cons, List.any_nil, Bool.or_false, Bool.false_or, Bool.true_or, Bool.or_true, Bool.and_true, Bool.true_and, Bool.and_false, Bool.false_and, Bool.not_true, Bool.not_false, Nat.reduceBEq, Nat.reduceEqDiff, decide_true, decide_false, cond_true, cond_false, List.filter_nil, List.filter_cons, Nat.reduceAdd, Nat.reduceLeDiff, reduceCtorEq, List.length_nil, List.length_cons, Nat.mul_one, if_true, if_false, Bool.false_eq_true, eq_self, and_true, true_and, retL, resultsL, resAllL, resOfL, List.append_nil, List.nil_append, List.cons_append, true_or, or_true, false_or, or_false, false_and, and_false, not_true_eq_false, not_false_eq_true, ne_eq, unL, trim_nil, views_pures, LV.pures, LV.pure, freeze, Nat.reduceDiv, Int.reduceEq, Int.reduceLT, Int.reduceLE, Int.natCast_zero, LV.cells, allocL, List.getElem?_cons_zero, List.getElem?_cons_succ, storeL, spliceL, List.take_zero, List.take_succ_cons, List.drop_zero, List.drop_succ_cons, List.drop_nil, List.take_nil, Nat.le_refl, Nat.reduceMul, List.set_cons_zero, List.set_cons_succ, LV.scalar, List.all_cons, List.all_nil, Nat.lt_add_one, Nat.zero_lt_one, Nat.reduceLT, Nat.lt_irrefl, fillL, List.length_append, foldIntL, kind_beq, pures_int, solids_int, plains_int, unders_int, scalars_int, hA, hB]
theorem named_last (n : Nat) (O : List Nat) (hO : O.length = n) (h100 : n ≤ 10) (vO vT : LV) (T : List Int) (m : LMem) (H : Pair m vO vT (ci O) T) (x y : List Nat) (hx : x.length ≤ 10) (hy : y.length ≤ 10) (hp : ∀ p ∈ y, p < n ∧ O.getD p 0 ∈ x) (c e : Bool) (z : Nat) (d : Nat) : ∀ (i : Nat), i + d = y.length →
    exF LP law12_PostNamed.L2 [(9, .int .i64 (n : Int)), (10, vO), (26, RV x), (194, IL c e z (ci y)), (195, .int .i64 (y.length : Int)), (196, .int .i64 (i : Int))] m = some (.exit 4, [], m) := by
  induction d with
  | zero =>
    intro i hi
    rw [law12_PostNamed.L2_eq]
    simp only [law12_PostNamed.B2, beqT, beqF, exF_seq, exF_region, exF_block, exF_cond, exF_ret, exF_exit, exF_skip, runL, wantL, stepL, evL, evC, LEnv.at, putL, loadFine, loadL, cellsAt, Trk.putNew, Trk.up, Trk.touch, Trk.gives, Trk.calm, Trk.hit, opdsOf, Trk.fresh, LEnv.keep, LEnv.ofFrom, List.map_cons, List.map_nil, nbeq, nble, nblt, ofAV, ofAVs, lenL, bin_add, bin_sub, bin_mul, bin_eql, bin_neq, bin_lss, bin_leq, bin_gtr, bin_geq, natL_nat, natL_zero, natL_one, natL_two, Nat.zero_mul, List.any_cons, List.any_nil, Bool.or_false, Bool.false_or, Bool.true_or, Bool.or_true, Bool.and_true, Bool.true_and, Bool.and_false, Bool.false_and, Bool.not_true, Bool.not_false, Nat.reduceBEq, Nat.reduceEqDiff, decide_true, decide_false, cond_true, cond_false, List.filter_nil, List.filter_cons, Nat.reduceAdd, Nat.reduceLeDiff, reduceCtorEq, List.length_nil, List.length_cons, Nat.mul_one, if_true, if_false, Bool.false_eq_true, eq_self, and_true, true_and, retL, resultsL, resAllL, resOfL, List.append_nil, List.nil_append, List.cons_append, true_or, or_true, false_or, or_false, false_and, and_false, not_true_eq_false, not_false_eq_true, ne_eq, unL, trim_nil, views_pures, LV.pures, LV.pure, freeze, Nat.reduceDiv, Int.reduceEq, Int.reduceLT, Int.reduceLE, Int.natCast_zero, LV.cells, allocL, List.getElem?_cons_zero, List.getElem?_cons_succ, storeL, spliceL, List.take_zero, List.take_succ_cons, List.drop_zero, List.drop_succ_cons, List.drop_nil, List.take_nil, Nat.le_refl, Nat.reduceMul, List.set_cons_zero, List.set_cons_succ, LV.scalar, List.all_cons, List.all_nil, Nat.lt_add_one, Nat.zero_lt_one, Nat.reduceLT, Nat.lt_irrefl, fillL, List.length_append, foldIntL, kind_beq, pures_int, solids_int, plains_int, unders_int, scalars_int, show ¬ ((i : Int) < (y.length : Int)) by omega]
  | succ d ih =>
    intro i hi
    have h2 : i < y.length := by omega
    have ih := ih (i + 1) (by omega)
    have hci := ci_at y i h2
    have hcl : (ci y).length = y.length := by simp
    obtain ⟨p1, p2⟩ := hp _ (List.getElem_mem h2)
    have hws := wrap_succ (show i + 1 < 9223372036854775808 by omega)
    have hor : (ints (ci O))[y[i]]? = some (.int .i64 ((O.getD y[i] 0 : Nat) : Int)) := by
      rw [ci_at O _ (by omega), List.getD_eq_getElem?_getD, List.getElem?_eq_getElem (by omega)]; rfl
    have hct := fun m => containsI_c (decide (ci x = [])) (decide (ci x = [])) (bif decide (ci x = []) then 0 else 1) (ci x) ((O.getD y[i] 0 : Nat) : Int) (by simp; omega) m
    rw [ci_memD] at hct
    have hct : ∀ m, clF LP n_slices_Contains_int_int [RV x, .int .i64 ((O.getD y[i] 0 : Nat) : Int)] m = some (.P, .bool true, m) := fun m => by
      have := hct m
      simp only [p2, decide_true] at this
      exact this
    have hil : (ints (ci O)).length = n := by simp [hO]
    have hil2 : (ci O).length = n := by simp [hO]
    rw [law12_PostNamed.L2_eq]
    generalize hR : RV x = R at *
    generalize O.getD y[i] 0 = w at *
    generalize y[i] = p at *
    have q1 : ¬ ((p : Int) < 0) := by omega
    have q2 : ¬ ((n : Int) ≤ (p : Int)) := by omega
    rcases H with ⟨h1, _, h3, _⟩ | ⟨a, b, o1, o2, _, h3, _, h4, _⟩
    · have hp1 : p < 1 := by rw [ci_ln] at h1; omega
      subst h3
      simp (maxSteps := 1000000) only [law12_PostNamed.B2, law12_PostNamed.B2.R0, beqT, beqF, exF_seq, exF_region, exF_block, exF_cond, exF_ret, exF_exit, exF_skip, runL, wantL, stepL, evL, evC, LEnv.at, putL, loadFine, loadL, cellsAt, Trk.putNew, Trk.up, Trk.touch, Trk.gives, Trk.calm, Trk.hit, opdsOf, Trk.fresh, LEnv.keep, LEnv.ofFrom, List.map_cons, List.map_nil, nbeq, nble, nblt, ofAV, ofAVs, lenL, bin_add, bin_sub, bin_mul, bin_eql, bin_neq, bin_lss, bin_leq, bin_gtr, bin_geq, natL_nat, natL_zero, natL_one, natL_two, Nat.zero_mul, List.any_cons, List.any_nil, Bool.or_false, Bool.false_or, Bool.true_or, Bool.or_true, Bool.and_true, Bool.true_and, Bool.and_false, Bool.false_and, Bool.not_true, Bool.not_false, Nat.reduceBEq, Nat.reduceEqDiff, decide_true, decide_false, cond_true, cond_false, List.filter_nil, List.filter_cons, Nat.reduceAdd, Nat.reduceLeDiff, reduceCtorEq, List.length_nil, List.length_cons, Nat.mul_one, if_true, if_false, Bool.false_eq_true, eq_self, and_true, true_and, retL, resultsL, resAllL, resOfL, List.append_nil, List.nil_append, List.cons_append, true_or, or_true, false_or, or_false, false_and, and_false, not_true_eq_false, not_false_eq_true, ne_eq, unL, trim_nil, views_pures, LV.pures, LV.pure, freeze, Nat.reduceDiv, Int.reduceEq, Int.reduceLT, Int.reduceLE, Int.natCast_zero, LV.cells, allocL, List.getElem?_cons_zero, List.getElem?_cons_succ, storeL, spliceL, List.take_zero, List.take_succ_cons, List.drop_zero, List.drop_succ_cons, List.drop_nil, List.take_nil, Nat.le_refl, Nat.reduceMul, List.set_cons_zero, List.set_cons_succ, LV.scalar, List.all_cons, List.all_nil, Nat.lt_add_one, Nat.zero_lt_one, Nat.reduceLT, Nat.lt_irrefl, fillL, List.length_append, foldIntL, kind_beq, pures_int, solids_int, plains_int, unders_int, scalars_int, show ((i : Int) < (y.length : Int)) by omega, hcl, h2, hci, q1, q2, hp1, hor, hct, hws, ih]
    · subst h3
      rw [hil2] at ih ⊢
      simp (maxSteps := 1000000) only [law12_PostNamed.B2, law12_PostNamed.B2.R0, beqT, beqF, exF_seq, exF_region, exF_block, exF_cond, exF_ret, exF_exit, exF_skip, runL, wantL, stepL, evL, evC, LEnv.at, putL, loadFine, loadL, cellsAt, Trk.putNew, Trk.up, Trk.touch, Trk.gives, Trk.calm, Trk.hit, opdsOf, Trk.fresh, LEnv.keep, LEnv.ofFrom, List.map_cons, List.map_nil, nbeq, nble, nblt, ofAV, ofAVs, lenL, bin_add, bin_sub, bin_mul, bin_eql, bin_neq, bin_lss, bin_leq, bin_gtr, bin_geq, natL_nat, natL_zero, natL_one, natL_two, Nat.zero_mul, List.any_cons, List.any_nil, Bool.or_false, Bool.false_or, Bool.true_or, Bool.or_true, Bool.and_true, Bool.true_and, Bool.and_false, Bool.false_and, Bool.not_true, Bool.not_false, Nat.reduceBEq, Nat.reduceEqDiff, decide_true, decide_false, cond_true, cond_false, List.filter_nil, List.filter_cons, Nat.reduceAdd, Nat.reduceLeDiff, reduceCtorEq, List.length_nil, List.length_cons, Nat.mul_one, if_true, if_false, Bool.false_eq_true, eq_self, and_true, true_and, retL, resultsL, resAllL, resOfL, List.append_nil, List.nil_append, List.cons_append, true_or, or_true, false_or, or_false, false_and, and_false, not_true_eq_false, not_false_eq_true, ne_eq, unL, trim_nil, views_pures, LV.pures, LV.pure, freeze, Nat.reduceDiv, Int.reduceEq, Int.reduceLT, Int.reduceLE, Int.natCast_zero, LV.cells, allocL, List.getElem?_cons_zero, List.getElem?_cons_succ, storeL, spliceL, List.take_zero, List.take_succ_cons, List.drop_zero, List.drop_succ_cons, List.drop_nil, List.take_nil, Nat.le_refl, Nat.reduceMul, List.set_cons_zero, List.set_cons_succ, LV.scalar, List.all_cons, List.all_nil, Nat.lt_add_one, Nat.zero_lt_one, Nat.reduceLT, Nat.lt_irrefl, fillL, List.length_append, foldIntL, kind_beq, pures_int, solids_int, plains_int, unders_int, scalars_int, show ((i : Int) < (y.length : Int)) by omega, hcl, h2, hci, q1, q2, p1, h4, hil, Nat.zero_add, hor, hct, hws, ih]
theorem list_c (l : List Int) (m : LMem) : clF LP n_law12_list [.lst false true 1 1 (ints l)] m = some (.P, .lst false true 1 1 (ints l), m) := by
  refine call_P lp_law12_list rfl (by simp [LV.pures, LV.pure]) (m1 := []) ?_ (by simp [LV.pures, LV.pure]) m
  simp only [law12_list, law12_list.B, beqT, beqF, exF_seq, exF_region, exF_block, exF_cond, exF_ret, exF_exit, exF_skip, runL, wantL, stepL, evL, evC, LEnv.at, putL, loadFine, loadL, cellsAt, Trk.putNew, Trk.up, Trk.touch, Trk.gives, Trk.calm, Trk.hit, opdsOf, Trk.fresh, LEnv.keep, LEnv.ofFrom, List.map_cons, List.map_nil, nbeq, nble, nblt, ofAV, ofAVs, lenL, bin_add, bin_sub, bin_mul, bin_eql, bin_neq, bin_lss, bin_leq, bin_gtr, bin_geq, natL_nat, natL_zero, natL_one, natL_two, Nat.zero_mul, List.any_cons, List.any_nil, Bool.or_false, Bool.false_or, Bool.true_or, Bool.or_true, Bool.and_true, Bool.true_and, Bool.and_false, Bool.false_and, Bool.not_true, Bool.not_false, Nat.reduceBEq, Nat.reduceEqDiff, decide_true, decide_false, cond_true, cond_false, List.filter_nil, List.filter_cons, Nat.reduceAdd, Nat.reduceLeDiff, reduceCtorEq, List.length_nil, List.length_cons, Nat.mul_one, if_true, if_false, Bool.false_eq_true, eq_self, and_true, true_and, retL, resultsL, resAllL, resOfL, List.append_nil, List.nil_append, List.cons_append, true_or, or_true, false_or, or_false, false_and, and_false, not_true_eq_false, not_false_eq_true, ne_eq, unL, trim_nil, views_pures, LV.pures, LV.pure, freeze, Nat.reduceDiv, Int.reduceEq, Int.reduceLT, Int.reduceLE, Int.natCast_zero, LV.cells, allocL, List.getElem?_cons_zero, List.getElem?_cons_succ, storeL, spliceL, List.take_zero, List.take_succ_cons, List.drop_zero, List.drop_succ_cons, List.drop_nil, List.take_nil, Nat.le_refl, Nat.reduceMul, List.set_cons_zero, List.set_cons_succ, LV.scalar, List.all_cons, List.all_nil, Nat.lt_add_one, Nat.zero_lt_one, Nat.reduceLT, Nat.lt_irrefl, fillL, List.length_append, foldIntL, kind_beq, pures_int, solids_int, plains_int, unders_int, scalars_int]
theorem named_in (ns : List Int) (hl : ns.length = 11) (hb : ∀ n ∈ ns, 0 ≤ n ∧ n < 256) (which : Int) (hw : 0 ≤ which ∧ which < 256) (turn : Bool) :
    clF LP n_law12_PostNamed [.agg (ns.map (LV.int .u8)), .int .u8 which, .bool turn] [] = some (.P, .bool true, []) := by
  obtain ⟨l, rfl, hlb⟩ := bytes_nat ns hb
  obtain ⟨wh, rfl⟩ := Int.eq_ofNat_of_zero_le hw.1
  have hwh : wh < 256 := by omega
  rw [ci_ln] at hl
  obtain ⟨p, bs, rfl⟩ : ∃ p bs, l = p :: bs := by
    cases l with
    | nil => simp at hl
    | cons p bs => exact ⟨p, bs, rfl⟩
  have hb10 : bs.length = 10 := by simpa using hl
  show clF LP n_law12_PostNamed [.agg (bys (p :: bs)), .int .u8 (wh : Int), .bool turn] [] = some (.P, .bool true, [])
  obtain ⟨f1, f2, hm⟩ := made_c p (hlb p (by simp)) 10 (by omega) (by omega) bs hb10 (fun x hx => hlb x (by simp [hx]))
  have hk : p % 10 < 10 := Nat.mod_lt _ (by omega)
  obtain ⟨K, hsl⟩ := shoreN_ok (1 + p % 10) (by omega) (by omega) bs
  rw [hand_eq (1 + p % 10) (by omega) (by omega) bs] at hm
  have hm : ∀ m, clF LP n_law12_Coast_made [.agg (bys (p :: bs)), .int .i64 10] m = some (.P, .tup [IL false f1 1 (shoreN (1 + p % 10) bs), UD f2 (handsV (shoreN (1 + p % 10) bs))], m) := fun m => by
    have := hm m
    rw [show UD f2 (handsV (shoreN (1 + p % 10) bs)) = .lst false f2 1 (1 + p % 10) (nats (handsV (shoreN (1 + p % 10) bs))) by rw [UD, handsV_length, hsl]]
    exact this
  have hbl : (bys (p :: bs)).length = 11 := by simp [hb10]
  have hps : LV.pures (bys (p :: bs)) = true := pures_int _ _
  have htk : (bys (p :: bs)).take 11 = bys (p :: bs) := List.take_of_length_le (by omega)
  generalize bys (p :: bs) = w at *
  generalize shoreN (1 + p % 10) bs = s at *
  have hle := K.le
  have hpos := K.pos
  have hpure : LV.pures [LV.agg w, .int .u8 (wh : Int), .bool turn] = true := by simp only [LV.pures, LV.pure, hps, Bool.and_true]
  have hc1 : IntKind.i64.wrap (wh : Int) = (wh : Int) := wrap_in (by omega)
  have hr : wh % s.length < s.length := Nat.mod_lt _ (by omega)
  have hrem : binL .rem (.int .i64 (wh : Int)) (.int .i64 (s.length : Int)) = some (.int .i64 ((wh % s.length : Nat) : Int)) := by
    rw [bin_rem _ _ _ (by omega)]; rfl
  generalize wh % s.length = r at *
  have H0 : Two [⟨w, true⟩] (.lst false true 1 1 (ints (ci [r]))) (.lst false true 1 1 (ints [-1])) (ci [r]) [-1] := .inl ⟨rfl, rfl, rfl, rfl⟩
  obtain ⟨m1, vO, vT, hlo, H1⟩ := named_outer turn f2 K (IL false f1 1 s) (.int .i64 (s.length : Int)) s.length 0 [⟨w, true⟩] _ _ [r] [-1] (by omega) H0 (inv_start hr)
  have I := bfs_inv K turn s.length 0 [r] [-1] (inv_start hr) (by omega)
  generalize (bfs s turn s.length 0 [r] [-1]).1 = O at *
  generalize (bfs s turn s.length 0 [r] [-1]).2 = T at *
  have K' := inv_oks K I
  have R := inv_ren K I
  have hOl := inv_len K I
  have hTl : T.length = s.length := R.len
  obtain ⟨m2, c2, P2⟩ := H1.pair.call lp_post_Fewest rfl (fun b m => fewR b K' m)
  obtain ⟨m3, c3, P3⟩ := P2.call lp_post_Apart rfl (fun b m => aptR b K' m)
  obtain ⟨m4, c4, P4⟩ := P3.call lp_post_Count rfl (fun b m => countR b K' m)
  obtain ⟨m5, c5, P5⟩ := P4.call lp_post_Ways rfl (fun b m => waysR b K' m)
  obtain ⟨m6, c6, P6⟩ := P5.call lp_post_Always rfl (fun b m => alwR b K' m)
  rw [cnt_ren R K K'] at c4
  rw [way_ren R K K'] at c5
  have lA := RV_len (firstS s (fun _ => 1))
  have lB := RV_len (firstS T (fun _ => 1))
  rw [few_len] at lA lB
  rw [few_ren R K K'] at lB
  have lC := RV_len (grM (hd s) s.length 0 0)
  have lD := RV_len (grM (hd T) T.length 0 0)
  rw [apt_ren R K K'] at lD
  have lE := RV_len (askV s (fun _ => 0) (fun x => x))
  have lF := RV_len (askV T (fun _ => 0) (fun x => x))
  rw [alw_len R K K'] at lF
  have hyl : (askV T (fun _ => 0) (fun x => x)).length ≤ 10 := by
    have := len_leA _ (List.range s.length) (up_nodup (alw_up K')) fun x hx => by
      have := ((alw_mem K' x).1 hx).1
      rw [hTl] at this
      simpa using this
    simp at this
    omega
  have hxl : (askV s (fun _ => 0) (fun x => x)).length ≤ 10 := by rw [← alw_len R K K']; exact hyl
  have hlast := named_last s.length O hOl hle vO vT T m6 P6 (askV s (fun _ => 0) (fun x => x)) (askV T (fun _ => 0) (fun x => x)) hxl hyl (fun p hp => by
    have h1 := ((alw_mem K' p).1 hp).1
    rw [hTl] at h1
    exact ⟨h1, (alw_ren R K K' h1).2 hp⟩) (decide (ci (askV T (fun _ => 0) (fun x => x)) = [])) (decide (ci (askV T (fun _ => 0) (fun x => x)) = [])) (bif decide (ci (askV T (fun _ => 0) (fun x => x)) = []) then 0 else 1) (askV T (fun _ => 0) (fun x => x)).length 0 (by omega)
  rw [alw_len R K K'] at hlast
  have hlast : exF LP law12_PostNamed.L2 [(9, .int .i64 (s.length : Int)), (10, vO), (26, RV (askV s (fun _ => 0) (fun x => x))), (194, RV (askV T (fun _ => 0) (fun x => x))), (195, .int .i64 ((askV s (fun _ => 0) (fun x => x)).length : Int)), (196, .int .i64 0)] m6 = some (.exit 4, [], m6) := hlast
  have hlo : exF LP law12_PostNamed.L1 [(2, .bool turn), (7, IL false f1 1 s), (8, UD f2 (handsV s)), (9, .int .i64 (s.length : Int)), (10, .lst false true 1 1 [.int .i64 (r : Int)]), (11, .lst false true 1 1 [.int .i64 (-1)]), (12, .int .i64 0)] [⟨w, true⟩] = some (.exit 0, [(7, IL false f1 1 s), (9, .int .i64 (s.length : Int)), (10, vO), (11, vT)], m1) := hlo
  have li1 : ∀ m, clF LP n_law12_list [.lst false true 1 1 [.int .i64 (r : Int)]] m = some (.P, .lst false true 1 1 [.int .i64 (r : Int)], m) := fun m => list_c [(r : Int)] m
  have li2 : ∀ m, clF LP n_law12_list [.lst false true 1 1 [.int .i64 (-1)]] m = some (.P, .lst false true 1 1 [.int .i64 (-1)], m) := fun m => list_c [-1] m
  have s1 := fun m => fewR f1 K m
  have s2 := fun m => aptR f1 K m
  have s3 := fun m => countR f1 K m
  have s4 := fun m => waysR f1 K m
  have s5 := fun m => alwR f1 K m
  have q0 := named_R0 (IL false f1 1 s) (.int .i64 (s.length : Int)) vO vT _ _ _ lA lB m2
  have q1 := named_R1 (IL false f1 1 s) (.int .i64 (s.length : Int)) vO vT _ _ _ lC lD m3
  have q2 := named_R2 (IL false f1 1 s) (.int .i64 (s.length : Int)) vO vT (cntV s : Int) (wayV s : Int) m5
  have q3 := named_R3 (.int .i64 (s.length : Int)) vO _ _ _ lE lF m6
  have l0 : lenL (IL false f1 1 s) = some s.length := rfl
  refine call_P lp_law12_PostNamed rfl hpure (m1 := m6) ?_ rfl []
  generalize UD f2 (handsV s) = Hv at *
  generalize RV (firstS s (fun _ => 1)) = A1 at *
  generalize RV (firstS T (fun _ => 1)) = A2 at *
  generalize RV (grM (hd s) s.length 0 0) = A3 at *
  generalize RV (grM (hd T) T.length 0 0) = A4 at *
  generalize RV (askV s (fun _ => 0) (fun x => x)) = A5 at *
  generalize RV (askV T (fun _ => 0) (fun x => x)) = A6 at *
  generalize (askV s (fun _ => 0) (fun x => x)).length = ln at *
  have hvx : ∀ (x : Int) m, views m [.int .i64 x] = some ([.int .i64 x], []) := fun x m => views_pures m _ (by simp [LV.pures, LV.pure])
  generalize IL false f1 1 s = S at *
  simp (maxSteps := 1000000) only [law12_PostNamed, law12_PostNamed.B, beqT, beqF, exF_seq, exF_region, exF_block, exF_cond, exF_ret, exF_exit, exF_skip, runL, wantL, stepL, evL, evC, LEnv.at, putL, loadFine, loadL, cellsAt, Trk.putNew, Trk.up, Trk.touch, Trk.gives, Trk.calm, Trk.hit, opdsOf, Trk.fresh, LEnv.keep, LEnv.ofFrom, List.map_cons, List.map_nil, nbeq, nble, nblt, ofAV, ofAVs, bin_add, bin_sub, bin_mul, bin_eql, bin_neq, bin_lss, bin_leq, bin_gtr, bin_geq, natL_nat, natL_zero, natL_one, natL_two, Nat.zero_mul, List.any_cons, List.any_nil, Bool.or_false, Bool.false_or, Bool.true_or, Bool.or_true, Bool.and_true, Bool.true_and, Bool.and_false, Bool.false_and, Bool.not_true, Bool.not_false, Nat.reduceBEq, Nat.reduceEqDiff, decide_true, decide_false, cond_true, cond_false, List.filter_nil, List.filter_cons, Nat.reduceAdd, Nat.reduceLeDiff, reduceCtorEq, List.length_nil, List.length_cons, Nat.mul_one, if_true, if_false, Bool.false_eq_true, eq_self, and_true, true_and, retL, resultsL, resAllL, resOfL, List.append_nil, List.nil_append, List.cons_append, true_or, or_true, false_or, or_false, false_and, and_false, not_true_eq_false, not_false_eq_true, ne_eq, unL, trim_nil, views_pures, LV.pures, LV.pure, freeze, Nat.reduceDiv, Int.reduceEq, Int.reduceLT, Int.reduceLE, Int.natCast_zero, LV.cells, allocL, List.getElem?_cons_zero, List.getElem?_cons_succ, storeL, spliceL, List.take_zero, List.take_succ_cons, List.drop_zero, List.drop_succ_cons, List.drop_nil, List.take_nil, Nat.le_refl, Nat.reduceMul, List.set_cons_zero, List.set_cons_succ, LV.scalar, List.all_cons, List.all_nil, Nat.lt_add_one, Nat.zero_lt_one, Nat.reduceLT, Nat.lt_irrefl, fillL, List.length_append, foldIntL, kind_beq, pures_int, solids_int, plains_int, unders_int, scalars_int, hbl, htk, hm, l0, hc1, hrem, hvx, freeze_nil, li1, li2, hlo, s1, s2, s3, s4, s5, c2, c3, c4, c5, c6, q0, q1, q2, q3, lF, hlast, works_c]
end Go.Am.Post


