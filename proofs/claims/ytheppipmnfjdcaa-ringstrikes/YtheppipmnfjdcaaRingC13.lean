/-
  What functions of chapter 04 compute, 13: what is sure, as the reference says; it is the same.
-/
import Derived.Test.YtheppipmnfjdcaaRingC10
set_option linter.unusedVariables false
set_option linter.unusedSimpArgs false
set_option maxRecDepth 10000
namespace Go.Am.Ring
open Go.Am.G

def befB (l : List (List Nat)) (a b : Nat) : Bool := l.all fun o => decide (pos o a < pos o b)
theorem trim_self (vs : List LV) (M : LMem) : trim M.length vs M = M := trim_le _ vs M (Nat.le_refl _)
theorem sureR_0 (n : Nat) (v : LV) (x y : Bool) (l : List (List Nat)) (hl : l.length < 1000000) (hlo : ∀ o ∈ l, o.length ≤ 6) (a b : Nat) (M : LMem) (j : Nat) : ∀ (i : Nat) (s : Bool), i + j = l.length →
    exF LP ref04_Sure.L0 [(0, .int .i64 (n : Int)), (7, v), (8, .lst x y 1 l.length (rows l)), (9, .int .i64 (a : Int)), (10, .int .i64 (b : Int)), (11, .bool s), (12, .int .i64 (i : Int))] M =
      some (.exit 4, [(0, .int .i64 (n : Int)), (7, v), (8, .lst x y 1 l.length (rows l)), (9, .int .i64 (a : Int)), (10, .int .i64 (b : Int)), (11, .bool (s && befB (l.drop i) a b))], M) := by
  induction j with
  | zero =>
    intro i s hi
    rw [ref04_Sure.L0_eq]
    simp only [ref04_Sure.B0, exF_seq, exF_region, exF_cond, exF_exit, runL, wantL, stepL, evL, LEnv.at, putL, loadFine, LEnv.keep, List.map_cons, List.map_nil, nbeq, lenL, bin_lss, Bool.and_true, Nat.reduceEqDiff, decide_true, decide_false, cond_true, cond_false, reduceCtorEq, eq_self, List.all_nil, show ¬ ((i : Int) < (l.length : Int)) by omega, List.drop_eq_nil_of_le (show l.length ≤ i by omega), befB, List.all_nil, Bool.and_true]
  | succ j ih =>
    intro i s hi
    have h2 : i < l.length := by omega
    have ih := ih (i + 1)
    have hrow := rows_at l i h2
    have hlo := hlo _ (List.getElem_mem h2)
    have p1 : ∀ m, clF LP n_ref04_place [rlv (ci l[i]), .int .i64 (a : Int)] m = some (.P, .int .i64 (pos l[i] a), m) := fun m => place_c false false 1 (ci l[i]) (a : Int) (by rw [ci_len]; omega) m
    have p2 : ∀ m, clF LP n_ref04_place [rlv (ci l[i]), .int .i64 (b : Int)] m = some (.P, .int .i64 (pos l[i] b), m) := fun m => place_c false false 1 (ci l[i]) (b : Int) (by rw [ci_len]; omega) m
    rw [ref04_Sure.L0_eq, List.drop_eq_getElem_cons h2, befB, List.all_cons]
    have hts := fun vs => trim_self vs M
    generalize rlv (ci l[i]) = row at *
    cases s
    · have ih := ih false (by omega)
      simp only [ref04_Sure.B0, beqT, exF_seq, exF_region, exF_block, exF_cond, exF_skip, runL, wantL, stepL, evL, evC, LEnv.at, putL, loadFine, LEnv.keep, List.map_cons, List.map_nil, nbeq, lenL, bin_add, bin_lss, Bool.false_and, Nat.reduceEqDiff, decide_true, decide_false, cond_true, cond_false, reduceCtorEq, eq_self, show ((i : Int) < (l.length : Int)) by omega, wrap_succ (show i + 1 < 9223372036854775808 by omega), hts, ih]
    · have ih := ih (decide (pos l[i] a < pos l[i] b)) (by omega)
      have e : (true && (decide (pos l[i] a < pos l[i] b) && (l.drop (i + 1)).all fun o => decide (pos o a < pos o b))) = (decide (pos l[i] a < pos l[i] b) && befB (l.drop (i + 1)) a b) := by simp [befB]
      rw [e]
      simp only [ref04_Sure.B0, beqT, exF_seq, exF_region, exF_block, exF_cond, exF_skip, runL, wantL, stepL, evL, evC, LEnv.at, putL, loadFine, loadL, cellsAt, Trk.putNew, Trk.up, Trk.touch, Trk.gives, Trk.calm, opdsOf, Trk.fresh, LEnv.keep, List.map_cons, List.map_nil, nbeq, nble, nblt, ofAVs, lenL, bin_add, bin_lss, natL_nat, List.any_cons, List.any_nil, Bool.or_false, Bool.or_true, Bool.and_true, Bool.false_and, Bool.not_true, Bool.not_false, Nat.reduceEqDiff, decide_true, decide_false, cond_true, cond_false, List.filter_nil, List.filter_cons, Nat.reduceAdd, reduceCtorEq, Nat.mul_one, if_true, eq_self, List.append_nil, List.nil_append, Nat.le_refl, show ((i : Int) < (l.length : Int)) by omega, h2, hrow, p1, p2, wrap_succ (show i + 1 < 9223372036854775808 by omega), hts, ih]
def surR (l : List (List Nat)) (a b : Nat) : Bool := !decide (a = b) && befB l a b
def surL (l : List (List Nat)) (a : Nat) (s : List Nat) : List (Nat × Nat) := (s.filter (surR l a)).map fun b => (a, b)
theorem sureR_1 (n : Nat) (hn : n ≤ 6) (x y : Bool) (l : List (List Nat)) (hl : l.length < 1000000) (hlo : ∀ o ∈ l, o.length ≤ 6) (a : Nat) (j : Nat) : ∀ (b : Nat) (M : LMem) (v : LV) (out : List (Nat × Nat)), b + j = n → out.length ≤ 100 + b → Lst M v 2 out.length (Pcs out) →
    ∃ v' M', exF LP ref04_Sure.L1 [(0, .int .i64 (n : Int)), (7, v), (8, .lst x y 1 l.length (rows l)), (9, .int .i64 (a : Int)), (10, .int .i64 (b : Int))] M =
      some (.exit 2, [(0, .int .i64 (n : Int)), (7, v'), (8, .lst x y 1 l.length (rows l)), (9, .int .i64 (a : Int))], M') ∧
      Lst M' v' 2 (out ++ surL l a (List.range' b j)).length (Pcs (out ++ surL l a (List.range' b j))) := by
  induction j with
  | zero =>
    intro b M v out hb hout hL
    refine ⟨v, M, ?_, by simpa [surL] using hL⟩
    rw [ref04_Sure.L1_eq]
    simp only [ref04_Sure.B1, exF_seq, exF_region, exF_cond, exF_exit, runL, wantL, stepL, evL, LEnv.at, putL, loadFine, LEnv.keep, List.map_cons, List.map_nil, nbeq, bin_lss, Nat.reduceEqDiff, decide_true, decide_false, cond_true, cond_false, reduceCtorEq, eq_self, show ¬ ((b : Int) < (n : Int)) by omega]
  | succ j ih =>
    intro b M v out hb hout hL
    have hbi : (b : Int) < (n : Int) := by omega
    have hw := wrap_succ (show b + 1 < 9223372036854775808 by omega)
    have h0 := sureR_0 n v x y l hl hlo a b M l.length 0 (!decide (a = b)) (by omega)
    rw [List.drop_zero] at h0
    simp only [Int.natCast_zero] at h0
    have hne : (decide ¬ ((a : Int) = (b : Int))) = !decide (a = b) := by
      rw [decide_not]
      congr 1
      rw [decide_eq_decide]; omega
    rw [List.range'_succ]
    cases c : surR l a b
    · have hs : surL l a (b :: List.range' (b + 1) j) = surL l a (List.range' (b + 1) j) := by
        unfold surL; rw [List.filter_cons_of_neg (by simp [c])]
      have c' : (!decide (a = b) && befB l a b) = false := c
      rw [c'] at h0
      rw [hs]
      generalize hvs : ([.int .i64 (n : Int), v, .lst x y 1 l.length (rows l), .int .i64 (a : Int), .int .i64 ((b + 1 : Nat) : Int)] : List LV) = vs
      obtain ⟨v', M', hex, hL'⟩ := ih (b + 1) M v out (by omega) (by omega) hL
      refine ⟨v', M', ?_, hL'⟩
      have hts := fun vs => trim_self vs M
      rw [ref04_Sure.L1_eq]
      simp only [ref04_Sure.B1, exF_seq, exF_region, exF_block, exF_cond, exF_skip, runL, wantL, stepL, evL, evC, LEnv.at, putL, loadFine, LEnv.keep, List.map_cons, List.map_nil, nbeq, bin_add, bin_neq, bin_lss, Nat.reduceEqDiff, decide_true, decide_false, cond_true, cond_false, reduceCtorEq, eq_self, ne_eq, hbi, hne, h0, hw, envVals, hts, hex]
    · have hs : surL l a (b :: List.range' (b + 1) j) = (a, b) :: surL l a (List.range' (b + 1) j) := by
        unfold surL; rw [List.filter_cons_of_pos (by simp [c])]; rfl
      have c' : (!decide (a = b) && befB l a b) = true := c
      rw [c'] at h0
      obtain ⟨v3, m3, hap, hL3, _, _, _⟩ := hL.append (x := .lst false true 2 1 [.int .i64 (a : Int), .int .i64 (b : Int)]) (k := 1) (news := [.int .i64 (a : Int), .int .i64 (b : Int)]) (bytes := 16) (by simp [contents, nbeq]) rfl (by omega) (by omega) rfl
      rw [← Pcs_snoc] at hL3
      have hL3 : Lst m3 v3 2 (out ++ [(a, b)]).length (Pcs (out ++ [(a, b)])) := by simpa using hL3
      rw [hs, List.append_cons]
      generalize hvs : ([.int .i64 (n : Int), v3, .lst x y 1 l.length (rows l), .int .i64 (a : Int), .int .i64 ((b + 1 : Nat) : Int)] : List LV) = vs
      have hvm : v3 ∈ vs := by rw [← hvs]; simp
      obtain ⟨v', M', hex, hL'⟩ := ih (b + 1) (trim M.length vs m3) v3 (out ++ [(a, b)]) (by omega) (by simp; omega) (lst_trim hL3 _ _ hvm)
      refine ⟨v', M', ?_, hL'⟩
      subst hvs
      rw [ref04_Sure.L1_eq]
      simp only [ref04_Sure.B1, exF_seq, exF_region, exF_block, exF_cond, exF_skip, runL, wantL, stepL, evL, evC, LEnv.at, putL, loadFine, LEnv.keep, List.map_cons, List.map_nil, nbeq, nble, ofAV, ofAVs, bin_add, bin_neq, bin_lss, Bool.or_false, Bool.and_true, Nat.reduceEqDiff, decide_true, decide_false, cond_true, cond_false, Nat.reduceAdd, Nat.reduceLeDiff, reduceCtorEq, List.length_nil, List.length_cons, eq_self, List.append_nil, List.nil_append, List.cons_append, ne_eq, views_pures, LV.pures, LV.pure, freeze, Nat.reduceDiv, LV.cells, spliceL, List.take_zero, List.take_succ_cons, List.drop_zero, List.drop_succ_cons, List.drop_nil, List.take_nil, Nat.le_refl, Nat.reduceMul, fillL, hbi, hne, h0, hap, hw, envVals, hex]
theorem surL_len (l : List (List Nat)) (a : Nat) (s : List Nat) : (surL l a s).length ≤ s.length := by
  unfold surL
  rw [List.length_map]
  exact List.length_filter_le _ _
theorem sureR_2 (n : Nat) (hn : n ≤ 6) (x y : Bool) (l : List (List Nat)) (hl : l.length < 1000000) (hlo : ∀ o ∈ l, o.length ≤ 6) (j : Nat) : ∀ (a : Nat) (M : LMem) (v : LV) (out : List (Nat × Nat)), a + j = n → out.length ≤ a * 6 → Lst M v 2 out.length (Pcs out) →
    ∃ v' M', exF LP ref04_Sure.L2 [(0, .int .i64 (n : Int)), (7, v), (8, .lst x y 1 l.length (rows l)), (9, .int .i64 (a : Int))] M = some (.exit 0, [(7, v')], M') ∧
      Lst M' v' 2 (out ++ (List.range' a j).flatMap fun a => surL l a (List.range n)).length (Pcs (out ++ (List.range' a j).flatMap fun a => surL l a (List.range n))) := by
  induction j with
  | zero =>
    intro a M v out ha hout hL
    refine ⟨v, M, ?_, by simpa using hL⟩
    rw [ref04_Sure.L2_eq]
    simp only [ref04_Sure.B2, exF_seq, exF_region, exF_cond, exF_exit, runL, wantL, stepL, evL, LEnv.at, putL, loadFine, LEnv.keep, List.map_cons, List.map_nil, nbeq, bin_lss, Nat.reduceEqDiff, decide_true, decide_false, cond_true, cond_false, reduceCtorEq, eq_self, show ¬ ((a : Int) < (n : Int)) by omega]
  | succ j ih =>
    intro a M v out ha hout hL
    have hai : (a : Int) < (n : Int) := by omega
    have hw := wrap_succ (show a + 1 < 9223372036854775808 by omega)
    obtain ⟨v1, M1, hin, hL1⟩ := sureR_1 n hn x y l hl hlo a n 0 M v out (by omega) (by omega) hL
    rw [← List.range_eq_range'] at hL1
    simp only [Int.natCast_zero] at hin
    have hsl := surL_len l a (List.range n)
    rw [List.length_range] at hsl
    generalize hvs : ([.int .i64 (n : Int), v1, .lst x y 1 l.length (rows l), .int .i64 ((a + 1 : Nat) : Int)] : List LV) = vs
    have hvm : v1 ∈ vs := by rw [← hvs]; simp
    obtain ⟨v', M', hex, hL'⟩ := ih (a + 1) (trim M.length vs M1) v1 (out ++ surL l a (List.range n)) (by omega) (by simp; omega) (lst_trim hL1 _ _ hvm)
    refine ⟨v', M', ?_, ?_⟩
    · subst hvs
      rw [ref04_Sure.L2_eq]
      simp only [ref04_Sure.B2, exF_seq, exF_region, exF_block, exF_cond, exF_skip, runL, wantL, stepL, evL, evC, LEnv.at, putL, loadFine, LEnv.keep, List.map_cons, List.map_nil, nbeq, bin_add, bin_lss, Nat.reduceEqDiff, decide_true, decide_false, cond_true, cond_false, reduceCtorEq, eq_self, hai, hin, hw, envVals, hex]
    · rw [List.range'_succ, List.flatMap_cons, ← List.append_assoc]
      exact hL'
def surS (n : Nat) (l : List (List Nat)) : List (Nat × Nat) := (List.range n).flatMap fun a => surL l a (List.range n)
theorem sureR_c (n : Nat) (P : List (Nat × Nat)) (G : Good n P) (nl ex : Bool) (sz : Nat) : ∃ a b z, ∀ m, clF LP n_ref04_Sure [.int .i64 (n : Int), FN nl ex sz P] m = some (.P, .tup [FN a b z (surS n (bestO P n)), .int .i64 0], m) := by
  have hc := fun m => checkR_c nl ex sz (n : Int) (P.map castP) (by have := G.le12; simp; omega) m
  rw [chkF_of G] at hc
  obtain ⟨x, y, hb⟩ := best_c n P G nl ex sz
  have hlo : ∀ o ∈ bestO P n, o.length ≤ 6 := fun o ho => by rw [(ords_ok (bestO_mem ho).1).2.1]; exact G.le6
  have hbl : (bestO P n).length < 1000000 := by
    rw [bestO_len G]
    have := (fwD_le anyM P n G.le6 0).2
    omega
  obtain ⟨v', M', he, hL⟩ := sureR_2 n G.le6 x y (bestO P n) hbl hlo n 0 [] (.lst true true 0 0 []) [] (by omega) (by simp) (Lst.nil [] 2)
  rw [List.nil_append, ← List.range_eq_range'] at hL
  have hL : Lst M' v' 2 (surS n (bestO P n)).length (Pcs (surS n (bestO P n))) := hL
  obtain ⟨a, b, z, ids, hz, _, _, hvw⟩ := hL.view (Pcs_pures _) (by omega)
  refine ⟨a, b, z, fun m => ?_⟩
  simp only [Int.natCast_zero] at he
  have hv2 : view 100 M' (.tup [v', .int .i64 0]) = some (.tup [FN a b z (surS n (bestO P n)), .int .i64 0], ids) := by
    simp only [FN_eq]
    by_cases hp : LV.pures [v', .int .i64 0] = true
    · have e := hvw 97
      have hvp : v'.pure = true := by simpa [LV.pures, LV.pure] using hp
      rw [view_pure 98 M' v' hvp] at e
      simp only [Option.some.injEq, Prod.mk.injEq] at e
      obtain ⟨e1, e2⟩ := e
      rw [view_pure 98 M' _ (by simpa [LV.pure] using hp), ← e2, e1]
    · exact view_tup2 M' v' (.int .i64 0) _ ids hvw rfl (by simpa using hp)
  refine call_Pv lp_ref04_Sure rfl (by simp [LV.pures, LV.pure]) (m1 := M') (v := .tup [v', .int .i64 0]) (ids := ids) ?_ hv2 m
  simp only [ref04_Sure, ref04_Sure.B, exF_seq, exF_region, exF_block, exF_cond, exF_ret, exF_skip, runL, wantL, stepL, evL, evC, LEnv.at, putL, loadFine, LEnv.keep, LEnv.ofFrom, List.map_cons, List.map_nil, nbeq, ofAVs, bin_neq, Nat.reduceEqDiff, decide_true, decide_false, cond_true, cond_false, Nat.reduceAdd, reduceCtorEq, eq_self, retL, resultsL, resAllL, resOfL, List.append_nil, List.nil_append, not_true_eq_false, ne_eq, hc, hb, he]
theorem sureR_e (N : Int) (l : List (Int × Int)) (hl : l.length < 1000000) (h : chkF N l ≠ 0) (nl ex : Bool) (sz : Nat) (m : LMem) :
    clF LP n_ref04_Sure [.int .i64 N, FL nl ex sz l] m = some (.P, .tup [.lst true true 0 0 [], .int .i64 (chkF N l)], m) := by
  have hc := fun m => checkR_c nl ex sz N l hl m
  refine call_P lp_ref04_Sure rfl (by simp [LV.pures, LV.pure]) (m1 := []) ?_ rfl m
  simp only [ref04_Sure, ref04_Sure.B, exF_seq, exF_region, exF_cond, exF_ret, runL, wantL, stepL, evL, evC, LEnv.at, putL, loadFine, LEnv.keep, LEnv.ofFrom, List.map_cons, List.map_nil, nbeq, ofAVs, bin_neq, Nat.reduceEqDiff, decide_true, decide_false, cond_true, cond_false, Nat.reduceAdd, reduceCtorEq, eq_self, retL, resultsL, resAllL, resOfL, List.append_nil, List.nil_append, not_false_eq_true, ne_eq, hc, h]

/-! ### Both say the same -/
def okAB (a b : Nat) (o : List Nat) : Prop := a ∈ o → pos o b < pos o a
theorem comps_may (a b n : Nat) (hab : a ≠ b) (hb : b < n) : ∀ (u done : Nat), leftN n done = u → ∀ o, o ∈ compsU (mayAB a b) n u done ↔ o ∈ compsU anyM n u done ∧ okAB a b o
  | 0, done, hu, o => by
    simp only [compsU, List.mem_singleton]
    constructor
    · rintro rfl; exact ⟨rfl, fun h => by simp at h⟩
    · exact fun h => h.1
  | u + 1, done, hu, o => by
    simp only [compsU, List.mem_flatMap]
    have key : ∀ f r, f < n → done.testBit f = false → r ∈ compsU anyM n u (done ||| 2 ^ f) → ((f ≠ a ∨ done.testBit b = true) ∧ okAB a b r ↔ okAB a b (f :: r)) := by
      intro f r hf hbf hr
      have hl := leftN_next done f hbf n hf
      obtain ⟨h1, h2, h3, h4⟩ := comps_ok anyM n u (done ||| 2 ^ f) (by omega) r hr
      have hfr : f ∉ r := fun c => by
        have := (h3 f c).2
        rw [or_bit] at this
        simp at this
      have hbd : b ∈ r → done.testBit b = false := fun c => by
        have := (h3 b c).2
        rw [or_bit] at this
        simp at this
        exact this.1
      have hb4 := h4 b hb
      rw [or_bit] at hb4
      unfold okAB
      simp only [pos_cons, List.mem_cons]
      have g1 := pos_ge r a
      have g2 := pos_ge r b
      have m1 := pos_mem r a
      have m2 := pos_mem r b
      have n2 := pos_not r b
      by_cases c : f = a
      · subst c
        constructor
        · rintro ⟨c1, _⟩ _
          have c1 : done.testBit b = true := by simpa using c1
          have c2 : b ∉ r := fun c => by rw [hbd c] at c1; cases c1
          rw [if_neg hab, if_neg c2, if_pos rfl]; omega
        · intro h
          have := h (.inl rfl)
          rw [if_neg hab, if_pos rfl] at this
          refine ⟨.inr ?_, fun c => absurd c hfr⟩
          by_cases c2 : b ∈ r
          · have := m2.2 c2
            simp only [c2, if_true] at *; omega
          · rcases hb4 with h | h
            · exact absurd h c2
            · simpa [hab] using h
      · constructor
        · rintro ⟨_, hk⟩ ha
          have ha : a ∈ r := by
            rcases ha with h | h
            · exact absurd h.symm c
            · exact h
          have hk := hk ha
          have := m1.2 ha
          rw [if_neg c, if_pos ha]
          by_cases c3 : f = b
          · rw [if_pos c3]; omega
          · rw [if_neg c3]
            split <;> omega
        · intro h
          refine ⟨.inl c, fun ha => ?_⟩
          have h := h (.inr ha)
          have := m1.2 ha
          rw [if_neg c, if_pos ha] at h
          by_cases c3 : f = b
          · have := n2 (c3 ▸ hfr)
            omega
          · rw [if_neg c3] at h
            by_cases c2 : b ∈ r
            · rw [if_pos c2] at h; omega
            · have := n2 c2; omega
    constructor
    · rintro ⟨f, hf, ho⟩
      split at ho
      · simp at ho
      · rename_i hcond
        obtain ⟨r, hr, rfl⟩ := List.mem_map.1 ho
        have hcond : done.testBit f = false ∧ mayAB a b f done = true := by
          cases h1 : done.testBit f <;> cases h2 : mayAB a b f done <;> simp [h1, h2] at hcond ⊢
        have hl := leftN_next done f hcond.1 n (List.mem_range.1 hf)
        obtain ⟨hr1, hr2⟩ := (comps_may a b n hab hb u (done ||| 2 ^ f) (by omega) r).1 hr
        have hm : f ≠ a ∨ done.testBit b = true := by
          have := hcond.2
          unfold mayAB at this
          simpa using this
        refine ⟨⟨f, hf, ?_⟩, (key f r (List.mem_range.1 hf) hcond.1 hr1).1 ⟨hm, hr2⟩⟩
        simp [hcond.1, anyM]
        exact hr1
    · rintro ⟨⟨f, hf, ho⟩, hk⟩
      split at ho
      · simp at ho
      · rename_i hcond
        obtain ⟨r, hr, rfl⟩ := List.mem_map.1 ho
        have hcond : done.testBit f = false := by simpa [anyM] using hcond
        have hl := leftN_next done f hcond n (List.mem_range.1 hf)
        obtain ⟨hm, hk2⟩ := (key f r (List.mem_range.1 hf) hcond hr).2 hk
        refine ⟨f, hf, ?_⟩
        have hmay : mayAB a b f done = true := by
          unfold mayAB
          simpa using hm
        rw [if_neg (by simp [hcond, hmay])]
        exact List.mem_map.2 ⟨r, (comps_may a b n hab hb u (done ||| 2 ^ f) (by omega) r).2 ⟨hr, hk2⟩, rfl⟩
theorem pos_inj (o : List Nat) (a b : Nat) (ha : a ∈ o) (hab : a ≠ b) : pos o a ≠ pos o b := by
  induction o with
  | nil => simp at ha
  | cons f r ih =>
    rw [pos_cons, pos_cons]
    by_cases c1 : f = a
    · rw [if_pos c1, if_neg (fun c => hab (c1.symm.trans c))]
      have := pos_ge r b
      split
      · rename_i h; have := (pos_mem r b).2 h; omega
      · omega
    · rw [if_neg c1]
      have har : a ∈ r := by
        rcases List.mem_cons.1 ha with h | h
        · exact absurd h.symm c1
        · exact h
      have := (pos_mem r a).2 har
      have := ih har
      rw [if_pos har]
      by_cases c2 : f = b
      · rw [if_pos c2]; omega
      · rw [if_neg c2]
        split <;> omega
theorem sure_eq {n : Nat} {P : List (Nat × Nat)} (G : Good n P) (a b : Nat) (ha : a < n) (hb : b < n) : sureB n P a b = surR (bestO P n) a b := by
  unfold sureB surR
  by_cases hab : a = b
  · simp [hab]
  · simp only [hab, decide_false, Bool.not_false, Bool.true_and]
    have m1 := fw_min anyM G
    have m2 := fw_min (mayAB a b) G
    have hcm := comps_may a b n hab hb n 0 (leftN_none n)
    have hok : ∀ o ∈ ords n, (okAB a b o ↔ pos o b < pos o a) := fun o ho => ⟨fun h => h ((ords_ok ho).2.2.2 a ha), fun h _ => h⟩
    rw [Bool.eq_iff_iff, decide_eq_true_eq]
    unfold befB
    rw [List.all_eq_true]
    constructor
    · intro h o ho
      obtain ⟨ho1, ho2⟩ := bestO_mem ho
      have hne := pos_inj o a b ((ords_ok ho1).2.2.2 a ha) hab
      by_cases c : pos o b < pos o a
      · have := m2.le _ (List.mem_map.2 ⟨o, (hcm o).2 ⟨ho1, (hok o ho1).2 c⟩, rfl⟩)
        omega
      · simp; omega
    · intro h
      by_cases he : compsU (mayAB a b) n n 0 = []
      · have := m2.nil (by rw [he]; rfl)
        have hne := ords_ne n n 0 (leftN_none n)
        obtain ⟨o, _, ho⟩ := List.mem_map.1 (m1.mem (by simpa using hne))
        have : contr P o ≤ P.length := List.countP_le_length
        have := G.le12
        omega
      · obtain ⟨o, ho, hoc⟩ := List.mem_map.1 (m2.mem (by simpa using he))
        obtain ⟨ho1, ho2⟩ := (hcm o).1 ho
        have hlt := (hok o ho1).1 ho2
        have hle := m1.le _ (List.mem_map.2 ⟨o, ho1, rfl⟩)
        by_cases c : (fwD anyM P n 0).1 = contr P o
        · have := h o (List.mem_filter.2 ⟨ho1, by simp [c]⟩)
          simp at this; omega
        · omega
theorem sureS_eq {n : Nat} {P : List (Nat × Nat)} (G : Good n P) : sureS n P = surS n (bestO P n) := by
  have h1 : ∀ a, a < n → ∀ s : List Nat, (∀ b ∈ s, b < n) → sureL n P a s = surL (bestO P n) a s := by
    intro a ha s hs
    unfold sureL surL
    congr 1
    apply List.filter_congr
    intro b hb
    exact sure_eq G a b ha (hs b hb)
  have h2 : ∀ l : List Nat, (∀ a ∈ l, a < n) → (l.flatMap fun a => sureL n P a (List.range n)) = l.flatMap fun a => surL (bestO P n) a (List.range n) := by
    intro l
    induction l with
    | nil => intro _; rfl
    | cons a l ih =>
      intro hl
      rw [List.flatMap_cons, List.flatMap_cons, ih fun x hx => hl x (by simp [hx]), h1 a (hl a (by simp)) _ fun b hb => List.mem_range.1 hb]
  exact h2 _ fun a ha => List.mem_range.1 ha
end Go.Am.Ring

