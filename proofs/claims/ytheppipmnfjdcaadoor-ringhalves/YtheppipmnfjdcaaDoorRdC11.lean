import Derived.Test.YtheppipmnfjdcaaDoorRdC9
/-
  What functions of chapter 04 compute, 11: the program's Sure.
-/
set_option linter.unusedVariables false
set_option linter.unusedSimpArgs false
set_option maxRecDepth 10000
namespace Go.Am.Ring
open Go.Am.G

/-- Is it sure that one form comes ahead of another one? -/
def sureB (n : Nat) (P : List (Nat × Nat)) (a b : Nat) : Bool := !decide (a = b) && decide ((fwD anyM P n 0).1 < (fwD (mayAB a b) P n 0).1)
abbrev Pcs (l : List (Nat × Nat)) : List LV := pcI (l.map castP)
theorem Pcs_len (l : List (Nat × Nat)) : (Pcs l).length = l.length * 2 := by rw [pcI_len, List.length_map]
theorem Pcs_snoc (l : List (Nat × Nat)) (a b : Nat) : Pcs (l ++ [(a, b)]) = Pcs l ++ [.int .i64 (a : Int), .int .i64 (b : Int)] := by simp [Pcs, pcI, pc, castP]
def sureL (n : Nat) (P : List (Nat × Nat)) (a : Nat) (l : List Nat) : List (Nat × Nat) := (l.filter (sureB n P a)).map fun b => (a, b)
theorem sure_in (n : Nat) (P : List (Nat × Nat)) (G : Good n P) (nl ex : Bool) (sz : Nat) (a : Nat) (ha : a < n) (ia : Nat) (j : Nat) : ∀ (b : Nat) (M : LMem) (v : LV) (out : List (Nat × Nat)), b + j = n → out.length ≤ 100 + b → Lst M v 2 out.length (Pcs out) → (∃ w, M[ia]? = some ⟨[.int .i64 (a : Int)], w⟩) → ¬ isBlk v ia →
    ∃ v' M', exF LP ring_Sure.L0 [(0, .int .i64 (n : Int)), (1, FN nl ex sz P), (7, .int .i64 (((fwD anyM P n 0).1 : Nat) : Int)), (8, v), (9, .ptr ia 0 1), (26, .int .i64 (n : Int)), (27, .int .i64 (a : Int)), (30, .int .i64 (n : Int)), (31, .int .i64 (b : Int))] M =
      some (.exit 2, [(0, .int .i64 (n : Int)), (1, FN nl ex sz P), (7, .int .i64 (((fwD anyM P n 0).1 : Nat) : Int)), (8, v'), (26, .int .i64 (n : Int)), (27, .int .i64 (a : Int))], M') ∧
      Lst M' v' 2 (out ++ sureL n P a (List.range' b j)).length (Pcs (out ++ sureL n P a (List.range' b j))) := by
  have h6 := G.le6
  induction j with
  | zero =>
    intro b M v out hb hout hL hia hbl
    refine ⟨v, M, ?_, by simpa [sureL] using hL⟩
    rw [ring_Sure.L0_eq]
    simp only [ring_Sure.B0, beqT, beqF, exF_seq, exF_region, exF_block, exF_cond, exF_ret, exF_exit, exF_skip, runL, wantL, stepL, evL, evC, LEnv.at, putL, loadFine, loadL, cellsAt, Trk.putNew, Trk.up, Trk.touch, Trk.gives, Trk.calm, Trk.hit, opdsOf, Trk.fresh, LEnv.keep, LEnv.ofFrom, List.map_cons, List.map_nil, nbeq, nble, nblt, ofAV, ofAVs, lenL, bin_add, bin_sub, bin_mul, bin_eql, bin_neq, bin_lss, bin_leq, bin_gtr, bin_geq, natL_nat, natL_zero, natL_one, natL_two, Nat.zero_mul, List.any_cons, List.any_nil, Bool.or_false, Bool.false_or, Bool.true_or, Bool.or_true, Bool.and_true, Bool.true_and, Bool.and_false, Bool.false_and, Bool.not_true, Bool.not_false, Nat.reduceBEq, Nat.reduceEqDiff, decide_true, decide_false, cond_true, cond_false, List.filter_nil, List.filter_cons, Nat.reduceAdd, Nat.reduceLeDiff, reduceCtorEq, List.length_nil, List.length_cons, Nat.mul_one, if_true, if_false, Bool.false_eq_true, eq_self, and_true, true_and, retL, resultsL, resAllL, resOfL, List.append_nil, List.nil_append, List.cons_append, true_or, or_true, false_or, or_false, false_and, and_false, not_true_eq_false, not_false_eq_true, ne_eq, unL, trim_nil, views_pures, LV.pures, LV.pure, freeze, Nat.reduceDiv, Int.reduceEq, Int.reduceLT, Int.reduceLE, Int.natCast_zero, LV.cells, allocL, List.getElem?_cons_zero, List.getElem?_cons_succ, storeL, spliceL, List.take_zero, List.take_succ_cons, List.drop_zero, List.drop_succ_cons, List.drop_nil, List.take_nil, Nat.le_refl, Nat.reduceMul, List.set_cons_zero, List.set_cons_succ, LV.scalar, List.all_cons, List.all_nil, Nat.lt_add_one, Nat.zero_lt_one, Nat.reduceLT, Nat.lt_irrefl, fillL, List.length_append, foldIntL, kind_beq, pures_int, solids_int, plains_int, unders_int, scalars_int, show ¬ ((b : Int) < (n : Int)) by omega]
  | succ j ih =>
    intro b M v out hb hout hL hia hbl
    obtain ⟨w, hia⟩ := hia
    have hbn : b < n := by omega
    have hbi : (b : Int) < (n : Int) := by omega
    have hw := wrap_succ (show b + 1 < 9223372036854775808 by omega)
    have hial : ia < M.length := by
      rcases Nat.lt_or_ge ia M.length with c | c
      · exact c
      · rw [List.getElem?_eq_none c] at hia; cases hia
    have la := last_at M ⟨[.int .i64 (b : Int)], true⟩
    have hia1 : ∀ x : LBlk, (M ++ [x])[ia]? = some ⟨[.int .i64 (a : Int)], w⟩ := fun x => by rw [List.getElem?_append_left hial, hia]
    have hLM : Lst (M ++ [⟨[.int .i64 (b : Int)], true⟩]) v 2 out.length (Pcs out) := hL.mono fun i hi => List.getElem?_append_left (hL.lt i hi)
    have hself : ¬ (M.length + 1 ≤ M.length) := by omega
    rw [List.range'_succ]
    by_cases c : a = b
    · have hs : sureL n P a (b :: List.range' (b + 1) j) = sureL n P a (List.range' (b + 1) j) := by
        unfold sureL
        rw [List.filter_cons_of_neg (by simp [sureB, c])]
      rw [hs]
      generalize hvs : ([.int .i64 (n : Int), FN nl ex sz P, .int .i64 (((fwD anyM P n 0).1 : Nat) : Int), v, .ptr ia 0 1, .int .i64 (n : Int), .int .i64 (a : Int), .int .i64 (n : Int), .int .i64 ((b + 1 : Nat) : Int)] : List LV) = vs
      have hvm : v ∈ vs := by rw [← hvs]; simp
      obtain ⟨v', M', hex, hL'⟩ := ih (b + 1) (trim M.length vs (M ++ [⟨[.int .i64 (b : Int)], true⟩])) v out (by omega) (by omega) (lst_trim hLM _ _ hvm) ⟨w, by rw [trim_get _ _ _ _ hial, hia1]⟩ hbl
      refine ⟨v', M', ?_, hL'⟩
      subst hvs
      subst c
      rw [ring_Sure.L0_eq]
      simp only [ring_Sure.B0, beqT, beqF, exF_seq, exF_region, exF_block, exF_cond, exF_ret, exF_exit, exF_skip, runL, wantL, stepL, evL, evC, LEnv.at, putL, loadFine, loadL, cellsAt, Trk.putNew, Trk.up, Trk.touch, Trk.gives, Trk.calm, Trk.hit, opdsOf, Trk.fresh, LEnv.keep, LEnv.ofFrom, List.map_cons, List.map_nil, nbeq, nble, nblt, ofAV, ofAVs, lenL, bin_add, bin_sub, bin_mul, bin_eql, bin_neq, bin_lss, bin_leq, bin_gtr, bin_geq, natL_nat, natL_zero, natL_one, natL_two, Nat.zero_mul, List.any_cons, List.any_nil, Bool.or_false, Bool.false_or, Bool.true_or, Bool.or_true, Bool.and_true, Bool.true_and, Bool.and_false, Bool.false_and, Bool.not_true, Bool.not_false, Nat.reduceBEq, Nat.reduceEqDiff, decide_true, decide_false, cond_true, cond_false, List.filter_nil, List.filter_cons, Nat.reduceAdd, Nat.reduceLeDiff, reduceCtorEq, List.length_nil, List.length_cons, Nat.mul_one, if_true, if_false, Bool.false_eq_true, eq_self, and_true, true_and, retL, resultsL, resAllL, resOfL, List.append_nil, List.nil_append, List.cons_append, true_or, or_true, false_or, or_false, false_and, and_false, not_true_eq_false, not_false_eq_true, ne_eq, unL, trim_nil, views_pures, LV.pures, LV.pure, freeze, Nat.reduceDiv, Int.reduceEq, Int.reduceLT, Int.reduceLE, Int.natCast_zero, LV.cells, allocL, List.getElem?_cons_zero, List.getElem?_cons_succ, storeL, spliceL, List.take_zero, List.take_succ_cons, List.drop_zero, List.drop_succ_cons, List.drop_nil, List.take_nil, Nat.le_refl, Nat.reduceMul, List.set_cons_zero, List.set_cons_succ, LV.scalar, List.all_cons, List.all_nil, Nat.lt_add_one, Nat.zero_lt_one, Nat.reduceLT, Nat.lt_irrefl, fillL, List.length_append, foldIntL, kind_beq, pures_int, solids_int, plains_int, unders_int, scalars_int, hbi, last_at, last_set, hia1, hw, envVals, hex]
    · have c' : ¬ (a : Int) = (b : Int) := by omega
      have hv := views_S (M ++ [⟨[.int .i64 (b : Int)], true⟩]) (n : Int) (FN nl ex sz P) (by simp [LV.pure, pcI_pures]) n_ring_Sure_1 ia M.length (a : Int) (b : Int) w true (hia1 _) la
      obtain ⟨m2, hc, hk, hlen2, hkc⟩ := call_shown2 lp_ring_filled rfl hv (by simp [LV.pures, LV.pure, pcI_pures]) (filledS_c n P G nl ex sz a b hbn [])
      obtain ⟨w2, hia2⟩ := hkc ia _ _ (hia1 _)
      obtain ⟨w3, hib2⟩ := hkc M.length _ _ la
      have hL2 : Lst m2 v 2 out.length (Pcs out) := hLM.mono fun i hi => hk i (by
        have h1 := hL.lt i hi
        simp only [List.mem_cons, List.not_mem_nil, or_false, not_or]
        exact ⟨fun e => hbl (e ▸ hi), by omega⟩)
      have h38 := tab_38 n P (mayAB a b) n_ring_Sure_1 [] [.elt [.int .i64 (a : Int)] 0, .elt [.int .i64 (b : Int)] 0]
      have hat := tF_at (mayAB a b) P n 0 (Nat.two_pow_pos n)
      have hpos := Nat.two_pow_pos n
      generalize hvs : ([.int .i64 (n : Int), FN nl ex sz P, .int .i64 (((fwD anyM P n 0).1 : Nat) : Int), v, .ptr ia 0 1, .int .i64 (n : Int), .int .i64 (a : Int), .int .i64 (n : Int), .int .i64 ((b + 1 : Nat) : Int)] : List LV) = vs
      have hvm : v ∈ vs := by rw [← hvs]; simp
      by_cases c2 : (fwD anyM P n 0).1 < (fwD (mayAB a b) P n 0).1
      · have hs : sureL n P a (b :: List.range' (b + 1) j) = (a, b) :: sureL n P a (List.range' (b + 1) j) := by
          unfold sureL
          rw [List.filter_cons_of_pos (by simp [sureB, c, c2])]
          rfl
        have c2' : (((fwD anyM P n 0).1 : Nat) : Int) < (((fwD (mayAB a b) P n 0).1 : Nat) : Int) := by omega
        obtain ⟨v3, m3, hap, hL3, hk3, hlen3, hblk3⟩ := hL2.append (x := .lst false true 2 1 [.int .i64 (a : Int), .int .i64 (b : Int)]) (k := 1) (news := [.int .i64 (a : Int), .int .i64 (b : Int)]) (bytes := 16) (by simp [contents, nbeq]) rfl (by omega) (by omega) rfl
        rw [← Pcs_snoc] at hL3
        have hL3 : Lst m3 v3 2 (out ++ [(a, b)]).length (Pcs (out ++ [(a, b)])) := by simpa using hL3
        rw [hs, List.append_cons]
        generalize hvs3 : ([.int .i64 (n : Int), FN nl ex sz P, .int .i64 (((fwD anyM P n 0).1 : Nat) : Int), v3, .ptr ia 0 1, .int .i64 (n : Int), .int .i64 (a : Int), .int .i64 (n : Int), .int .i64 ((b + 1 : Nat) : Int)] : List LV) = vs3
        have hvm3 : v3 ∈ vs3 := by rw [← hvs3]; simp
        have hia3 : m3[ia]? = some ⟨[.int .i64 (a : Int)], w2⟩ := by rw [hk3 ia (by rw [hlen2]; simp; omega) hbl, hia2]
        obtain ⟨v', M', hex, hL'⟩ := ih (b + 1) (trim M.length vs3 m3) v3 (out ++ [(a, b)]) (by omega) (by simp; omega) (lst_trim hL3 _ _ hvm3) ⟨w2, by rw [trim_get _ _ _ _ hial, hia3]⟩ (by
          intro h
          rcases hblk3 ia h with h | h
          · exact hbl h
          · rw [hlen2] at h; simp at h; omega)
        refine ⟨v', M', ?_, hL'⟩
        subst hvs3
        rw [ring_Sure.L0_eq]
        simp only [ring_Sure.B0, beqT, beqF, exF_seq, exF_region, exF_block, exF_cond, exF_ret, exF_exit, exF_skip, runL, wantL, stepL, evL, evC, LEnv.at, putL, loadFine, loadL, cellsAt, Trk.putNew, Trk.up, Trk.touch, Trk.gives, Trk.calm, Trk.hit, opdsOf, Trk.fresh, LEnv.keep, LEnv.ofFrom, List.map_cons, List.map_nil, nbeq, nble, nblt, ofAV, ofAVs, lenL, bin_add, bin_sub, bin_mul, bin_eql, bin_neq, bin_lss, bin_leq, bin_gtr, bin_geq, natL_nat, natL_zero, natL_one, natL_two, Nat.zero_mul, List.any_cons, List.any_nil, Bool.or_false, Bool.false_or, Bool.true_or, Bool.or_true, Bool.and_true, Bool.true_and, Bool.and_false, Bool.false_and, Bool.not_true, Bool.not_false, Nat.reduceBEq, Nat.reduceEqDiff, decide_true, decide_false, cond_true, cond_false, List.filter_nil, List.filter_cons, Nat.reduceAdd, Nat.reduceLeDiff, reduceCtorEq, List.length_nil, List.length_cons, Nat.mul_one, if_true, if_false, Bool.false_eq_true, eq_self, and_true, true_and, retL, resultsL, resAllL, resOfL, List.append_nil, List.nil_append, List.cons_append, true_or, or_true, false_or, or_false, false_and, and_false, not_true_eq_false, not_false_eq_true, ne_eq, unL, trim_nil, views_pures, LV.pures, LV.pure, freeze, Nat.reduceDiv, Int.reduceEq, Int.reduceLT, Int.reduceLE, Int.natCast_zero, LV.cells, allocL, List.getElem?_cons_zero, List.getElem?_cons_succ, storeL, spliceL, List.take_zero, List.take_succ_cons, List.drop_zero, List.drop_succ_cons, List.drop_nil, List.take_nil, Nat.le_refl, Nat.reduceMul, List.set_cons_zero, List.set_cons_succ, LV.scalar, List.all_cons, List.all_nil, Nat.lt_add_one, Nat.zero_lt_one, Nat.reduceLT, Nat.lt_irrefl, fillL, List.length_append, foldIntL, kind_beq, pures_int, solids_int, plains_int, unders_int, scalars_int, hbi, last_at, last_set, hia1, hw, envVals, c', hc, Nat.zero_add, h38, hpos, hat, c2', hia2, hib2, hap, hex]
      · have hs : sureL n P a (b :: List.range' (b + 1) j) = sureL n P a (List.range' (b + 1) j) := by
          unfold sureL
          rw [List.filter_cons_of_neg (by simp [sureB, c, c2])]
        rw [hs]
        have c2' : ¬ (((fwD anyM P n 0).1 : Nat) : Int) < (((fwD (mayAB a b) P n 0).1 : Nat) : Int) := by omega
        obtain ⟨v', M', hex, hL'⟩ := ih (b + 1) (trim M.length vs m2) v out (by omega) (by omega) (lst_trim hL2 _ _ hvm) ⟨w2, by rw [trim_get _ _ _ _ hial, hia2]⟩ hbl
        refine ⟨v', M', ?_, hL'⟩
        subst hvs
        rw [ring_Sure.L0_eq]
        simp only [ring_Sure.B0, beqT, beqF, exF_seq, exF_region, exF_block, exF_cond, exF_ret, exF_exit, exF_skip, runL, wantL, stepL, evL, evC, LEnv.at, putL, loadFine, loadL, cellsAt, Trk.putNew, Trk.up, Trk.touch, Trk.gives, Trk.calm, Trk.hit, opdsOf, Trk.fresh, LEnv.keep, LEnv.ofFrom, List.map_cons, List.map_nil, nbeq, nble, nblt, ofAV, ofAVs, lenL, bin_add, bin_sub, bin_mul, bin_eql, bin_neq, bin_lss, bin_leq, bin_gtr, bin_geq, natL_nat, natL_zero, natL_one, natL_two, Nat.zero_mul, List.any_cons, List.any_nil, Bool.or_false, Bool.false_or, Bool.true_or, Bool.or_true, Bool.and_true, Bool.true_and, Bool.and_false, Bool.false_and, Bool.not_true, Bool.not_false, Nat.reduceBEq, Nat.reduceEqDiff, decide_true, decide_false, cond_true, cond_false, List.filter_nil, List.filter_cons, Nat.reduceAdd, Nat.reduceLeDiff, reduceCtorEq, List.length_nil, List.length_cons, Nat.mul_one, if_true, if_false, Bool.false_eq_true, eq_self, and_true, true_and, retL, resultsL, resAllL, resOfL, List.append_nil, List.nil_append, List.cons_append, true_or, or_true, false_or, or_false, false_and, and_false, not_true_eq_false, not_false_eq_true, ne_eq, unL, trim_nil, views_pures, LV.pures, LV.pure, freeze, Nat.reduceDiv, Int.reduceEq, Int.reduceLT, Int.reduceLE, Int.natCast_zero, LV.cells, allocL, List.getElem?_cons_zero, List.getElem?_cons_succ, storeL, spliceL, List.take_zero, List.take_succ_cons, List.drop_zero, List.drop_succ_cons, List.drop_nil, List.take_nil, Nat.le_refl, Nat.reduceMul, List.set_cons_zero, List.set_cons_succ, LV.scalar, List.all_cons, List.all_nil, Nat.lt_add_one, Nat.zero_lt_one, Nat.reduceLT, Nat.lt_irrefl, fillL, List.length_append, foldIntL, kind_beq, pures_int, solids_int, plains_int, unders_int, scalars_int, hbi, last_at, last_set, hia1, hw, envVals, c', hc, Nat.zero_add, h38, hpos, hat, c2', hex]
theorem sureL_len (n : Nat) (P : List (Nat × Nat)) (a : Nat) (l : List Nat) : (sureL n P a l).length ≤ l.length := by
  unfold sureL
  rw [List.length_map]
  exact List.length_filter_le _ _
theorem sure_out (n : Nat) (P : List (Nat × Nat)) (G : Good n P) (nl ex : Bool) (sz : Nat) (j : Nat) : ∀ (a : Nat) (M : LMem) (v : LV) (out : List (Nat × Nat)), a + j = n → out.length ≤ a * 6 → Lst M v 2 out.length (Pcs out) →
    ∃ v' M', exF LP ring_Sure.L1 [(0, .int .i64 (n : Int)), (1, FN nl ex sz P), (7, .int .i64 (((fwD anyM P n 0).1 : Nat) : Int)), (8, v), (26, .int .i64 (n : Int)), (27, .int .i64 (a : Int))] M = some (.exit 0, [(8, v')], M') ∧
      Lst M' v' 2 (out ++ (List.range' a j).flatMap fun a => sureL n P a (List.range n)).length (Pcs (out ++ (List.range' a j).flatMap fun a => sureL n P a (List.range n))) := by
  have h6 := G.le6
  induction j with
  | zero =>
    intro a M v out ha hout hL
    refine ⟨v, M, ?_, by simpa using hL⟩
    rw [ring_Sure.L1_eq]
    simp only [ring_Sure.B1, beqT, beqF, exF_seq, exF_region, exF_block, exF_cond, exF_ret, exF_exit, exF_skip, runL, wantL, stepL, evL, evC, LEnv.at, putL, loadFine, loadL, cellsAt, Trk.putNew, Trk.up, Trk.touch, Trk.gives, Trk.calm, Trk.hit, opdsOf, Trk.fresh, LEnv.keep, LEnv.ofFrom, List.map_cons, List.map_nil, nbeq, nble, nblt, ofAV, ofAVs, lenL, bin_add, bin_sub, bin_mul, bin_eql, bin_neq, bin_lss, bin_leq, bin_gtr, bin_geq, natL_nat, natL_zero, natL_one, natL_two, Nat.zero_mul, List.any_cons, List.any_nil, Bool.or_false, Bool.false_or, Bool.true_or, Bool.or_true, Bool.and_true, Bool.true_and, Bool.and_false, Bool.false_and, Bool.not_true, Bool.not_false, Nat.reduceBEq, Nat.reduceEqDiff, decide_true, decide_false, cond_true, cond_false, List.filter_nil, List.filter_cons, Nat.reduceAdd, Nat.reduceLeDiff, reduceCtorEq, List.length_nil, List.length_cons, Nat.mul_one, if_true, if_false, Bool.false_eq_true, eq_self, and_true, true_and, retL, resultsL, resAllL, resOfL, List.append_nil, List.nil_append, List.cons_append, true_or, or_true, false_or, or_false, false_and, and_false, not_true_eq_false, not_false_eq_true, ne_eq, unL, trim_nil, views_pures, LV.pures, LV.pure, freeze, Nat.reduceDiv, Int.reduceEq, Int.reduceLT, Int.reduceLE, Int.natCast_zero, LV.cells, allocL, List.getElem?_cons_zero, List.getElem?_cons_succ, storeL, spliceL, List.take_zero, List.take_succ_cons, List.drop_zero, List.drop_succ_cons, List.drop_nil, List.take_nil, Nat.le_refl, Nat.reduceMul, List.set_cons_zero, List.set_cons_succ, LV.scalar, List.all_cons, List.all_nil, Nat.lt_add_one, Nat.zero_lt_one, Nat.reduceLT, Nat.lt_irrefl, fillL, List.length_append, foldIntL, kind_beq, pures_int, solids_int, plains_int, unders_int, scalars_int, show ¬ ((a : Int) < (n : Int)) by omega]
  | succ j ih =>
    intro a M v out ha hout hL
    have hai : (a : Int) < (n : Int) := by omega
    have hw := wrap_succ (show a + 1 < 9223372036854775808 by omega)
    have la := last_at M ⟨[.int .i64 (a : Int)], true⟩
    have hLM : Lst (M ++ [⟨[.int .i64 (a : Int)], true⟩]) v 2 out.length (Pcs out) := hL.mono fun i hi => List.getElem?_append_left (hL.lt i hi)
    obtain ⟨v1, M1, hin, hL1⟩ := sure_in n P G nl ex sz a (by omega) M.length n 0 (M ++ [⟨[.int .i64 (a : Int)], true⟩]) v out (by omega) (by omega) hLM ⟨true, la⟩ (fun h => by have := hL.lt _ h; omega)
    rw [← List.range_eq_range'] at hL1
    simp only [Int.natCast_zero] at hin
    have hsl := sureL_len n P a (List.range n)
    rw [List.length_range] at hsl
    generalize hvs : ([.int .i64 (n : Int), FN nl ex sz P, .int .i64 (((fwD anyM P n 0).1 : Nat) : Int), v1, .int .i64 (n : Int), .int .i64 ((a + 1 : Nat) : Int)] : List LV) = vs
    have hvm : v1 ∈ vs := by rw [← hvs]; simp
    obtain ⟨v', M', hex, hL'⟩ := ih (a + 1) (trim M.length vs M1) v1 (out ++ sureL n P a (List.range n)) (by omega) (by simp; omega) (lst_trim hL1 _ _ hvm)
    refine ⟨v', M', ?_, ?_⟩
    · subst hvs
      rw [ring_Sure.L1_eq]
      simp only [ring_Sure.B1, beqT, beqF, exF_seq, exF_region, exF_block, exF_cond, exF_ret, exF_exit, exF_skip, runL, wantL, stepL, evL, evC, LEnv.at, putL, loadFine, loadL, cellsAt, Trk.putNew, Trk.up, Trk.touch, Trk.gives, Trk.calm, Trk.hit, opdsOf, Trk.fresh, LEnv.keep, LEnv.ofFrom, List.map_cons, List.map_nil, nbeq, nble, nblt, ofAV, ofAVs, lenL, bin_add, bin_sub, bin_mul, bin_eql, bin_neq, bin_lss, bin_leq, bin_gtr, bin_geq, natL_nat, natL_zero, natL_one, natL_two, Nat.zero_mul, List.any_cons, List.any_nil, Bool.or_false, Bool.false_or, Bool.true_or, Bool.or_true, Bool.and_true, Bool.true_and, Bool.and_false, Bool.false_and, Bool.not_true, Bool.not_false, Nat.reduceBEq, Nat.reduceEqDiff, decide_true, decide_false, cond_true, cond_false, List.filter_nil, List.filter_cons, Nat.reduceAdd, Nat.reduceLeDiff, reduceCtorEq, List.length_nil, List.length_cons, Nat.mul_one, if_true, if_false, Bool.false_eq_true, eq_self, and_true, true_and, retL, resultsL, resAllL, resOfL, List.append_nil, List.nil_append, List.cons_append, true_or, or_true, false_or, or_false, false_and, and_false, not_true_eq_false, not_false_eq_true, ne_eq, unL, trim_nil, views_pures, LV.pures, LV.pure, freeze, Nat.reduceDiv, Int.reduceEq, Int.reduceLT, Int.reduceLE, Int.natCast_zero, LV.cells, allocL, List.getElem?_cons_zero, List.getElem?_cons_succ, storeL, spliceL, List.take_zero, List.take_succ_cons, List.drop_zero, List.drop_succ_cons, List.drop_nil, List.take_nil, Nat.le_refl, Nat.reduceMul, List.set_cons_zero, List.set_cons_succ, LV.scalar, List.all_cons, List.all_nil, Nat.lt_add_one, Nat.zero_lt_one, Nat.reduceLT, Nat.lt_irrefl, fillL, List.length_append, foldIntL, kind_beq, pures_int, solids_int, plains_int, unders_int, scalars_int, hai, last_at, last_set, hin, hw, envVals, hex]
    · rw [List.range'_succ, List.flatMap_cons, ← List.append_assoc]
      exact hL'
def sureS (n : Nat) (P : List (Nat × Nat)) : List (Nat × Nat) := (List.range n).flatMap fun a => sureL n P a (List.range n)
/-- The list of pairs as it is shown. -/
theorem Pcs_pures (l : List (Nat × Nat)) : LV.pures (Pcs l) = true := pcI_pures _
theorem sure_c (n : Nat) (P : List (Nat × Nat)) (G : Good n P) (nl ex : Bool) (sz : Nat) : ∃ a b z, ∀ m, clF LP n_ring_Sure [.int .i64 (n : Int), FN nl ex sz P] m = some (.P, .tup [FN a b z (sureS n P), .int .i64 0], m) := by
  have hc := fun m => check_c nl ex sz (n : Int) (P.map castP) (by have := G.le12; simp; omega) m
  rw [chkF_of G] at hc
  have hf := fun m => filledA_c n P G nl ex sz m
  have h38 := tab_38 n P anyM n_ring_anyForm [] []
  have hat := tF_at anyM P n 0 (Nat.two_pow_pos n)
  have hpos := Nat.two_pow_pos n
  obtain ⟨v', M', he, hL⟩ := sure_out n P G nl ex sz n 0 [] (.lst true true 0 0 []) [] (by omega) (by simp) (Lst.nil [] 2)
  rw [List.nil_append, ← List.range_eq_range'] at hL
  have hL : Lst M' v' 2 (sureS n P).length (Pcs (sureS n P)) := hL
  obtain ⟨a, b, z, ids, hz, _, _, hvw⟩ := hL.view (Pcs_pures _) (by omega)
  refine ⟨a, b, z, fun m => ?_⟩
  simp only [Int.natCast_zero] at he
  have hv2 : view 100 M' (.tup [v', .int .i64 0]) = some (.tup [FN a b z (sureS n P), .int .i64 0], ids) := by
    simp only [FN_eq]
    by_cases hp : LV.pures [v', .int .i64 0] = true
    · have e := hvw 97
      have hvp : v'.pure = true := by simpa [LV.pures, LV.pure] using hp
      rw [view_pure 98 M' v' hvp] at e
      simp only [Option.some.injEq, Prod.mk.injEq] at e
      obtain ⟨e1, e2⟩ := e
      rw [view_pure 98 M' _ (by simpa [LV.pure] using hp), ← e2, e1]
    · exact view_tup2 M' v' (.int .i64 0) _ ids hvw rfl (by simpa using hp)
  refine call_Pv lp_ring_Sure rfl (by simp [LV.pures, LV.pure, pcI_pures]) (m1 := M') (v := .tup [v', .int .i64 0]) (ids := ids) ?_ hv2 m
  simp only [ring_Sure, ring_Sure.B, beqT, beqF, exF_seq, exF_region, exF_block, exF_cond, exF_ret, exF_exit, exF_skip, runL, wantL, stepL, evL, evC, LEnv.at, putL, loadFine, loadL, cellsAt, Trk.putNew, Trk.up, Trk.touch, Trk.gives, Trk.calm, Trk.hit, opdsOf, Trk.fresh, LEnv.keep, LEnv.ofFrom, List.map_cons, List.map_nil, nbeq, nble, nblt, ofAV, ofAVs, lenL, bin_add, bin_sub, bin_mul, bin_eql, bin_neq, bin_lss, bin_leq, bin_gtr, bin_geq, natL_nat, natL_zero, natL_one, natL_two, Nat.zero_mul, List.any_cons, List.any_nil, Bool.or_false, Bool.false_or, Bool.true_or, Bool.or_true, Bool.and_true, Bool.true_and, Bool.and_false, Bool.false_and, Bool.not_true, Bool.not_false, Nat.reduceBEq, Nat.reduceEqDiff, decide_true, decide_false, cond_true, cond_false, List.filter_nil, List.filter_cons, Nat.reduceAdd, Nat.reduceLeDiff, reduceCtorEq, List.length_nil, List.length_cons, Nat.mul_one, if_true, if_false, Bool.false_eq_true, eq_self, and_true, true_and, retL, resultsL, resAllL, resOfL, List.append_nil, List.nil_append, List.cons_append, true_or, or_true, false_or, or_false, false_and, and_false, not_true_eq_false, not_false_eq_true, ne_eq, unL, trim_nil, views_pures, LV.pures, LV.pure, freeze, Nat.reduceDiv, Int.reduceEq, Int.reduceLT, Int.reduceLE, Int.natCast_zero, LV.cells, allocL, List.getElem?_cons_zero, List.getElem?_cons_succ, storeL, spliceL, List.take_zero, List.take_succ_cons, List.drop_zero, List.drop_succ_cons, List.drop_nil, List.take_nil, Nat.le_refl, Nat.reduceMul, List.set_cons_zero, List.set_cons_succ, LV.scalar, List.all_cons, List.all_nil, Nat.lt_add_one, Nat.zero_lt_one, Nat.reduceLT, Nat.lt_irrefl, fillL, List.length_append, foldIntL, kind_beq, pures_int, solids_int, plains_int, unders_int, scalars_int, hc, hf, Nat.zero_add, h38, hpos, hat, he]
end Go.Am.Ring

/-
  What functions of chapter 04 compute, 13: what is sure, as the reference says; it is the same.
-/
set_option linter.unusedVariables false
set_option linter.unusedSimpArgs false
set_option maxRecDepth 10000
namespace Go.Am.Ring
open Go.Am.G

end Go.Am.Ring

/-
  What functions of chapter 04 compute, 14: finds turned round.
-/
set_option linter.unusedVariables false
set_option linter.unusedSimpArgs false
set_option maxRecDepth 10000
namespace Go.Am.Ring
open Go.Am.G

end Go.Am.Ring


