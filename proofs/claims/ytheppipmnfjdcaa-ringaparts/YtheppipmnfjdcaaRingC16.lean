import Derived.Test.YtheppipmnfjdcaaRingC14
/-
  What functions of chapter 04 compute, 16: the reference's rings.
-/
set_option linter.unusedVariables false
set_option linter.unusedSimpArgs false
set_option maxRecDepth 10000
namespace Go.Am.Ring
open Go.Am.G

def st (P : List (Nat × Nat)) (i : Nat) : Nat := (P.getD i (0, 0)).1
def en (P : List (Nat × Nat)) (i : Nat) : Nat := (P.getD i (0, 0)).2
theorem getD_at {α : Type} (P : List α) (i : Nat) (d : α) (h : i < P.length) : P.getD i d = P[i] := by
  rw [List.getD_eq_getElem?_getD, List.getElem?_eq_getElem h]; rfl
theorem pcS (P : List (Nat × Nat)) (i : Nat) (h : i < P.length) : (pcI (P.map castP))[i * 2]? = some (.int .i64 ((st P i : Nat) : Int)) := by
  rw [pcN_0 P i h, st, getD_at P i _ h]
theorem pcE (P : List (Nat × Nat)) (i : Nat) (h : i < P.length) : (pcI (P.map castP))[i * 2 + 1]? = some (.int .i64 ((en P i : Nat) : Int)) := by
  rw [pcN_1 P i h, en, getD_at P i _ h]
theorem pcSE (P : List (Nat × Nat)) (i : Nat) (h : i < P.length) : ((pcI (P.map castP)).drop (i * 2)).take 2 = [.int .i64 ((st P i : Nat) : Int), .int .i64 ((en P i : Nat) : Int)] := by
  rw [pcN_seg P i h, st, en, getD_at P i _ h]
def freshB (P : List (Nat × Nat)) (b : List Nat) (i : Nat) : Bool := b.all fun k => !decide (st P k = st P i)
/-- All rings that begin with some finds. -/
def ringsU (P : List (Nat × Nat)) : Nat → List Nat → List (List Nat)
  | 0, _ => []
  | u + 1, b => if en P (b.getLastD 0) = st P (b.headD 0) then [b] else
      (List.range' (b.headD 0 + 1) (P.length - (b.headD 0 + 1))).flatMap fun i => if st P i = en P (b.getLastD 0) ∧ freshB P b i = true then ringsU P u (b ++ [i]) else []
theorem ringsU_len (P : List (Nat × Nat)) (hP : P.length ≤ 12) : ∀ (u : Nat) (b : List Nat), (ringsU P u b).length ≤ 12 ^ u
  | 0, b => by simp [ringsU]
  | u + 1, b => by
    rw [ringsU]
    split
    · simp
      exact Nat.succ_le_of_lt (Nat.pow_pos (by omega))
    · rw [List.length_flatMap]
      have : ∀ l : List Nat, (l.map fun i => (if st P i = en P (b.getLastD 0) ∧ freshB P b i = true then ringsU P u (b ++ [i]) else []).length).sum ≤ l.length * 12 ^ u := by
        intro l
        induction l with
        | nil => simp
        | cons i l ih =>
          rw [List.map_cons, List.sum_cons, List.length_cons, Nat.add_mul, Nat.one_mul]
          have : (if st P i = en P (b.getLastD 0) ∧ freshB P b i = true then ringsU P u (b ++ [i]) else []).length ≤ 12 ^ u := by
            split
            · exact ringsU_len P hP u _
            · simp
          omega
      have h := this (List.range' (b.headD 0 + 1) (P.length - (b.headD 0 + 1)))
      rw [List.length_range'] at h
      refine Nat.le_trans h ?_
      rw [Nat.pow_succ, Nat.mul_comm]
      exact Nat.mul_le_mul_left _ (by omega)
theorem ringsR_0 (eb : Bool) (P : List (Nat × Nat)) (nl ex : Bool) (sz : Nat) (b : List Nat) (hb : b.length ≤ 6) (hbl : ∀ k ∈ b, k < P.length) (i : Nat) (hi : i < P.length) (p v : LV) (M : LMem) (j : Nat) : ∀ (k : Nat) (s : Bool), k + j = b.length →
    exF LP ref04_rings.L0 [(0, FN nl ex sz P), (1, IL false eb 1 (ci b)), (6, p), (7, v), (8, .int .i64 (i : Int)), (9, .bool s), (10, .int .i64 (k : Int))] M =
      some (.exit 2, [(0, FN nl ex sz P), (1, IL false eb 1 (ci b)), (6, p), (7, v), (8, .int .i64 (i : Int)), (9, .bool (s && freshB P (b.drop k) i))], M) := by
  induction j with
  | zero =>
    intro k s hk
    rw [ref04_rings.L0_eq]
    simp only [ref04_rings.B0, exF_seq, exF_region, exF_cond, exF_exit, runL, wantL, stepL, evL, LEnv.at, putL, loadFine, LEnv.keep, List.map_cons, List.map_nil, nbeq, lenL, bin_lss, Bool.and_true, Nat.reduceEqDiff, decide_true, decide_false, cond_true, cond_false, reduceCtorEq, eq_self, List.all_nil, ci_len, show ¬ ((k : Int) < (b.length : Int)) by omega, List.drop_eq_nil_of_le (show b.length ≤ k by omega), freshB, List.all_nil, Bool.and_true]
  | succ j ih =>
    intro k s hk
    have h2 : k < b.length := by omega
    have ih := ih (k + 1)
    have hat : (ci b).map (LV.int .i64) = b.map fun y : Nat => LV.int .i64 (y : Int) := by simp
    have hbk := nat_at .i64 b k h2
    rw [← hat] at hbk
    have hkl := hbl _ (List.getElem_mem h2)
    have s1 := pcS P b[k] hkl
    have s2 := pcS P i hi
    have hcl := ci_len b
    rw [ref04_rings.L0_eq, List.drop_eq_getElem_cons h2, freshB, List.all_cons]
    simp only [FN_eq] at ih ⊢
    simp only [IL, hcl] at ih ⊢
    generalize (ci b).map (LV.int .i64) = row at *
    cases s
    · have ih := ih false (by omega)
      simp only [ref04_rings.B0, beqT, exF_seq, exF_region, exF_block, exF_cond, exF_skip, runL, wantL, stepL, evL, evC, LEnv.at, putL, loadFine, LEnv.keep, List.map_cons, List.map_nil, nbeq, lenL, bin_add, bin_lss, Bool.false_and, Nat.reduceEqDiff, decide_true, decide_false, cond_true, cond_false, reduceCtorEq, eq_self, show ((k : Int) < (b.length : Int)) by omega, wrap_succ (show k + 1 < 9223372036854775808 by omega), ih]
    · have ih := ih (!decide (st P b[k] = st P i)) (by omega)
      have e : (true && (!decide (st P b[k] = st P i) && (b.drop (k + 1)).all fun k => !decide (st P k = st P i))) = (!decide (st P b[k] = st P i) && freshB P (b.drop (k + 1)) i) := by simp [freshB]
      have hne : (decide ¬ (((st P b[k] : Nat) : Int) = ((st P i : Nat) : Int))) = !decide (st P b[k] = st P i) := by
        rw [decide_not]
        congr 1
        rw [decide_eq_decide]; omega
      rw [e]
      simp only [ref04_rings.B0, beqT, exF_seq, exF_region, exF_block, exF_cond, exF_skip, runL, wantL, stepL, evL, evC, LEnv.at, putL, loadFine, loadL, cellsAt, Trk.putNew, Trk.up, Trk.touch, Trk.gives, Trk.calm, opdsOf, Trk.fresh, LEnv.keep, List.map_cons, List.map_nil, nbeq, nble, nblt, lenL, bin_add, bin_neq, bin_lss, natL_nat, natL_zero, List.any_cons, List.any_nil, Bool.or_false, Bool.or_true, Bool.and_true, Bool.false_and, Bool.not_true, Bool.not_false, Nat.reduceEqDiff, decide_true, decide_false, cond_true, cond_false, List.filter_nil, Nat.reduceAdd, reduceCtorEq, Nat.mul_one, eq_self, ne_eq, Nat.le_refl, Nat.reduceLT, show ((k : Int) < (b.length : Int)) by omega, h2, hbk, hkl, hi, Nat.add_zero, s1, s2, hne, wrap_succ (show k + 1 < 9223372036854775808 by omega), ih]
theorem ringsR_1 (eb : Bool) (P : List (Nat × Nat)) (hP : P.length ≤ 12) (nl ex : Bool) (sz : Nat) (b : List Nat) (hb : b.length ≤ 6) (hbl : ∀ k ∈ b, k < P.length) (x y : Nat) (u : Nat) (hu : u ≤ 6) (sub : Nat → List (List Nat)) (hsub : ∀ i, (sub i).length ≤ 12 ^ u)
    (hrec : ∀ i, i < P.length → st P i = y → freshB P b i = true → ∃ nl' ex' z, (sub i = [] ∨ z = 1) ∧ clF LP n_ref04_rings [FN nl ex sz P, rlv (ci (b ++ [i]))] [] = some (.P, .lst nl' ex' z (sub i).length (rows (sub i)), [])) (j : Nat) :
    ∀ (i : Nat) (M : LMem) (v : LV) (R : List (List Nat)), i + j = P.length → R.length ≤ i * 12 ^ u → Lst M v 1 R.length (rows R) → (∃ w, M[1]? = some ⟨[.int .i64 (x : Int), .int .i64 (y : Int)], w⟩) → ¬ isBlk v 1 →
    ∃ v' M', exF LP ref04_rings.L1 [(0, FN nl ex sz P), (1, IL false eb 1 (ci b)), (6, .ptr 1 0 2), (7, v), (8, .int .i64 (i : Int))] M = some (.exit 0, [(7, v')], M') ∧
      Lst M' v' 1 (R ++ (List.range' i j).flatMap fun i => if st P i = y ∧ freshB P b i = true then sub i else []).length (rows (R ++ (List.range' i j).flatMap fun i => if st P i = y ∧ freshB P b i = true then sub i else [])) := by
  have h6 : 12 ^ u ≤ 2985984 := by
    have : 12 ^ u ≤ 12 ^ 6 := Nat.pow_le_pow_right (by omega) hu
    exact this
  generalize 12 ^ u = K at *
  induction j with
  | zero =>
    intro i M v R hi hR hL _ _
    refine ⟨v, M, ?_, by simpa using hL⟩
    rw [ref04_rings.L1_eq]
    simp only [FN_eq]
    simp only [ref04_rings.B1, exF_seq, exF_region, exF_cond, exF_exit, runL, wantL, stepL, evL, LEnv.at, putL, loadFine, LEnv.keep, List.map_cons, List.map_nil, nbeq, lenL, bin_lss, Nat.reduceEqDiff, decide_true, decide_false, cond_true, cond_false, reduceCtorEq, eq_self, show ¬ ((i : Int) < (P.length : Int)) by omega]
  | succ j ih =>
    intro i M v R hi hR hL hbx hnb
    obtain ⟨w, hbx⟩ := hbx
    have h2 : i < P.length := by omega
    have hii : (i : Int) < (P.length : Int) := by omega
    have hw := wrap_succ (show i + 1 < 9223372036854775808 by omega)
    have s1 := pcS P i h2
    have h4 : (i + 1) * K = i * K + K := by rw [Nat.add_mul, Nat.one_mul]
    have h7 : i * K ≤ 12 * 2985984 := Nat.mul_le_mul (by omega) h6
    have hl1 : 1 < M.length := by
      rcases Nat.lt_or_ge 1 M.length with c | c
      · exact c
      · rw [List.getElem?_eq_none c] at hbx; cases hbx
    have hM1 : ¬ (M.length ≤ 1) := by omega
    rw [List.range'_succ, List.flatMap_cons]
    by_cases c1 : st P i = y
    · have c1' : ((st P i : Nat) : Int) = (y : Int) := by omega
      have h0 := ringsR_0 eb P nl ex sz b hb hbl i h2 (.ptr 1 0 2) v M b.length 0 true (by omega)
      rw [List.drop_zero, Bool.true_and] at h0
      simp only [Int.natCast_zero] at h0
      cases c2 : freshB P b i
      · rw [if_neg (by simp), List.nil_append]
        rw [c2] at h0
        obtain ⟨v', M', hex, hL'⟩ := ih (i + 1) M v R (by omega) (by rw [h4]; omega) hL ⟨w, hbx⟩ hnb
        refine ⟨v', M', ?_, hL'⟩
        rw [ref04_rings.L1_eq]
        simp only [FN_eq] at h0 hex ⊢
        simp only [ref04_rings.B1, exF_seq, exF_region, exF_block, exF_cond, exF_skip, runL, wantL, stepL, evL, evC, LEnv.at, putL, loadFine, loadL, cellsAt, Trk.putNew, Trk.up, Trk.touch, Trk.gives, Trk.calm, Trk.hit, opdsOf, Trk.fresh, LEnv.keep, List.map_cons, List.map_nil, nbeq, nble, nblt, lenL, bin_add, bin_neq, bin_lss, natL_nat, natL_zero, natL_one, List.any_cons, List.any_nil, Bool.or_false, Bool.or_true, Bool.and_true, Bool.false_and, Bool.not_true, Bool.not_false, Nat.reduceEqDiff, decide_true, decide_false, cond_true, cond_false, List.filter_nil, Nat.reduceAdd, reduceCtorEq, List.length_nil, List.length_cons, Nat.mul_one, eq_self, not_true_eq_false, ne_eq, List.getElem?_cons_zero, List.getElem?_cons_succ, List.take_succ_cons, List.drop_zero, List.drop_succ_cons, List.take_nil, Nat.le_refl, Nat.lt_add_one, Nat.reduceLT, hii, h2, hM1, Nat.add_zero, Nat.zero_add, s1, hbx, c1', h0, hw, hex]
      · rw [if_pos ⟨c1, rfl⟩, ← List.append_assoc]
        rw [c2] at h0
        obtain ⟨nl2, ex2, z2, hz2, hr⟩ := hrec i h2 c1 c2
        have a1 := app_clone M false eb 1 (ci b) (by rw [ci_len]; omega) (.inr rfl)
        have a2 := app_two M (ci b) (i : Int) (by rw [ci_len]; omega)
        have e1 : ci (b ++ [i]) = ci b ++ [(i : Int)] := by simp
        have hne : ci b ++ [(i : Int)] ≠ [] := by simp
        rw [e1] at hr
        have hv : views (M ++ GM (ci b ++ [(i : Int)])) [FN nl ex sz P, GV M.length (ci b ++ [(i : Int)])] = some ([FN nl ex sz P, rlv (ci b ++ [(i : Int)])], [M.length]) := by
          have := views_snd 92 (M ++ GM (ci b ++ [(i : Int)])) (FN nl ex sz P) (GV M.length (ci b ++ [(i : Int)])) (RL (ci b ++ [(i : Int)])) [M.length] (fun k => by
            have := view_grow k M (ci b ++ [(i : Int)])
            rw [if_neg hne] at this
            exact this) (by simp [LV.pure]) (by simp [GV, hne, LV.pures, LV.pure])
          rw [RL_ne hne] at this
          exact this
        obtain ⟨m1, hc, hkeep, hlen, hkc⟩ := call_shown2 lp_ref04_rings rfl hv (by simp [LV.pures, LV.pure]) hr
        have hblk : ∀ i, isBlk v i → i < M.length := fun i hi => hL.lt i hi
        have hL1 : Lst m1 v 1 R.length (rows R) := hL.mono fun i hi => by
          rw [hkeep i (by have := hblk i hi; simp; omega), List.getElem?_append_left (hblk i hi)]
        have hsl := hsub i
        obtain ⟨v2, M2, ha, hL2, hk2, hlen2, hb2⟩ := hL1.append (x := .lst nl2 ex2 z2 (sub i).length (rows (sub i))) (k := (sub i).length) (news := rows (sub i)) (bytes := 24) (by
          rcases hz2 with h | h
          · simp [contents, nbeq, h]
          · simp [contents, nbeq, h]) (by simp) (by omega) (by omega) (rows_scalar _)
        rw [← List.map_append, ← List.length_append] at hL2
        have hm1l : M.length < m1.length := by rw [hlen]; simp [GM]
        have hbx2 : M2[1]? = some ⟨[.int .i64 (x : Int), .int .i64 (y : Int)], w⟩ := by
          rw [hk2 1 (by omega) hnb, hkeep 1 (by simp; omega), List.getElem?_append_left hl1, hbx]
        obtain ⟨v', M', hex, hL'⟩ := ih (i + 1) M2 v2 (R ++ sub i) (by omega) (by rw [h4, List.length_append]; omega) hL2 ⟨w, hbx2⟩ (fun h => by
          rcases hb2 1 h with h | h
          · exact hnb h
          · omega)
        refine ⟨v', M', ?_, hL'⟩
        have hvn : ∀ m, views m [] = some ([], []) := fun _ => rfl
        have hfn : ∀ m, freeze [] m = m := freeze_nil
        have hvi : ∀ m (x : Int), views m [.int .i64 x] = some ([.int .i64 x], []) := fun m x => rfl
        have hci : ∀ (x : Int), (LV.int .i64 x).cells = some [.int .i64 x] := fun x => rfl
        rw [ref04_rings.L1_eq]
        simp only [FN_eq] at h0 hex hc ⊢
        simp only [ref04_rings.B1, exF_seq, exF_region, exF_block, exF_cond, exF_skip, runL, wantL, stepL, evL, evC, LEnv.at, putL, loadFine, loadL, cellsAt, Trk.putNew, Trk.up, Trk.touch, Trk.gives, Trk.calm, Trk.hit, opdsOf, Trk.fresh, LEnv.keep, List.map_cons, List.map_nil, nbeq, nble, nblt, ofAV, ofAVs, lenL, bin_add, bin_neq, bin_lss, natL_nat, natL_zero, natL_one, Nat.zero_mul, List.any_cons, List.any_nil, Bool.or_false, Bool.or_true, Bool.and_true, Bool.false_and, Bool.not_true, Bool.not_false, Nat.reduceEqDiff, decide_true, decide_false, cond_true, cond_false, List.filter_nil, Nat.reduceAdd, reduceCtorEq, List.length_nil, List.length_cons, Nat.mul_one, eq_self, List.append_nil, List.nil_append, not_true_eq_false, ne_eq, Nat.reduceDiv, List.getElem?_cons_zero, List.getElem?_cons_succ, spliceL, List.take_zero, List.take_succ_cons, List.drop_zero, List.drop_succ_cons, List.drop_nil, List.take_nil, Nat.le_refl, Nat.lt_add_one, Nat.reduceLT, fillL, hii, h2, hM1, Nat.add_zero, Nat.zero_add, s1, hbx, c1', h0, hvn, hfn, a1, hvi, hci, a2, hc, ha, hw, hex]
    · have c1' : ¬ ((st P i : Nat) : Int) = (y : Int) := by omega
      rw [if_neg (by simp [c1]), List.nil_append]
      obtain ⟨v', M', hex, hL'⟩ := ih (i + 1) M v R (by omega) (by rw [h4]; omega) hL ⟨w, hbx⟩ hnb
      refine ⟨v', M', ?_, hL'⟩
      rw [ref04_rings.L1_eq]
      simp only [FN_eq] at hex ⊢
      simp only [ref04_rings.B1, exF_seq, exF_region, exF_block, exF_cond, exF_exit, exF_skip, runL, wantL, stepL, evL, evC, LEnv.at, putL, loadFine, loadL, cellsAt, Trk.putNew, Trk.up, Trk.touch, Trk.gives, Trk.calm, Trk.hit, opdsOf, Trk.fresh, LEnv.keep, List.map_cons, List.map_nil, nbeq, nble, nblt, lenL, bin_add, bin_neq, bin_lss, natL_nat, natL_zero, natL_one, List.any_cons, List.any_nil, Bool.or_false, Bool.or_true, Bool.and_true, Bool.false_and, Bool.not_true, Bool.not_false, Nat.reduceEqDiff, decide_true, decide_false, cond_true, cond_false, List.filter_nil, Nat.reduceAdd, reduceCtorEq, List.length_nil, List.length_cons, Nat.mul_one, eq_self, not_false_eq_true, ne_eq, List.getElem?_cons_zero, List.getElem?_cons_succ, List.take_succ_cons, List.drop_zero, List.drop_succ_cons, List.take_nil, Nat.le_refl, Nat.lt_add_one, Nat.reduceLT, hii, h2, hM1, Nat.add_zero, Nat.zero_add, s1, hbx, c1', hw, hex]
end Go.Am.Ring

/-
  What functions of chapter 04 compute, 17: the reference's rings, all of them.
-/
set_option linter.unusedVariables false
set_option linter.unusedSimpArgs false
set_option maxRecDepth 10000
namespace Go.Am.Ring
open Go.Am.G

theorem nodup_le : ∀ (s t : List Nat), s.Nodup → (∀ x ∈ s, x ∈ t) → s.length ≤ t.length
  | [], t, _, _ => by simp
  | a :: s, t, hs, ht => by
    have hs := List.nodup_cons.1 hs
    have := nodup_le s (t.erase a) hs.2 (fun x hx => by
      have hxa : x ≠ a := fun e => hs.1 (e ▸ hx)
      exact (List.mem_erase_of_ne hxa).2 (ht x (by simp [hx])))
    have ha := ht a (by simp)
    rw [List.length_erase_of_mem ha] at this
    have hp := List.length_pos_of_mem ha
    simp; omega
/-- Finds that may be the beginning of a ring. -/
structure Beg (n : Nat) (P : List (Nat × Nat)) (b : List Nat) : Prop where
  ne : b ≠ []
  lt : ∀ k ∈ b, k < P.length
  nd : (b.map (st P)).Nodup
theorem st_lt {n : Nat} {P : List (Nat × Nat)} (G : Good n P) {k : Nat} (h : k < P.length) : st P k < n ∧ en P k < n ∧ st P k ≠ en P k := by
  unfold st en
  rw [getD_at P k _ h]
  exact ⟨(G.lt _ (List.getElem_mem h)).1, (G.lt _ (List.getElem_mem h)).2, G.ne _ (List.getElem_mem h)⟩
theorem Beg.len {n : Nat} {P : List (Nat × Nat)} (G : Good n P) {b : List Nat} (B : Beg n P b) : b.length ≤ 6 := by
  have := nodup_le (b.map (st P)) (List.range n) B.nd (fun x hx => by
    obtain ⟨k, hk, rfl⟩ := List.mem_map.1 hx
    exact List.mem_range.2 (st_lt G (B.lt k hk)).1)
  simp at this
  have := G.le6
  omega
theorem Beg.snoc {n : Nat} {P : List (Nat × Nat)} {b : List Nat} (B : Beg n P b) {i : Nat} (hi : i < P.length) (hf : freshB P b i = true) : Beg n P (b ++ [i]) := by
  refine ⟨by simp, ?_, ?_⟩
  · intro k hk
    rcases List.mem_append.1 hk with h | h
    · exact B.lt k h
    · rw [List.mem_singleton.1 h]; exact hi
  · rw [List.map_append, List.nodup_append]
    refine ⟨B.nd, by simp, ?_⟩
    intro x hx y hy
    simp at hy
    subst hy
    obtain ⟨k, hk, rfl⟩ := List.mem_map.1 hx
    unfold freshB at hf
    rw [List.all_eq_true] at hf
    simpa using hf k hk
theorem head_at (b : List Nat) (h : 0 < b.length) : b[0] = b.headD 0 := by
  cases b with
  | nil => simp at h
  | cons a t => rfl
theorem last_el (b : List Nat) (h : b.length - 1 < b.length) : b[b.length - 1] = b.getLastD 0 := by
  rw [List.getLastD_eq_getLast?, List.getLast?_eq_getElem?, List.getElem?_eq_getElem h]; rfl
theorem ringsR_c {n : Nat} {P : List (Nat × Nat)} (G : Good n P) (nl ex : Bool) (sz : Nat) : ∀ (u : Nat) (b : List Nat) (eb : Bool), Beg n P b → b.length + u = 7 → (eb = false ∨ b.length = 1) → ∃ nl' ex' z, (ringsU P u b = [] ∨ z = 1) ∧ ∀ m, clF LP n_ref04_rings [FN nl ex sz P, IL false eb 1 (ci b)] m = some (.P, .lst nl' ex' z (ringsU P u b).length (rows (ringsU P u b)), m)
  | 0, b, eb, B, hb, _ => by have := B.len G; omega
  | u + 1, b, eb, B, hb, heb => by
    have hb6 := B.len G
    have hpos : 0 < b.length := List.length_pos_iff.2 B.ne
    have h12 := G.le12
    have hhd : b.headD 0 < P.length := B.lt _ (by rw [← head_at b hpos]; exact List.getElem_mem _)
    have hld : b.getLastD 0 < P.length := B.lt _ (by rw [← last_el b (by omega)]; exact List.getElem_mem _)
    have hat : (ci b).map (LV.int .i64) = b.map fun y : Nat => LV.int .i64 (y : Int) := by simp
    have b0 := nat_at .i64 b 0 hpos
    have bl := nat_at .i64 b (b.length - 1) (by omega)
    rw [← hat, head_at b hpos] at b0
    rw [← hat, last_el b (by omega)] at bl
    have s0 := pcSE P _ hhd
    have sl := pcSE P _ hld
    have ok0 := pcN_ok P _ hhd
    have okl := pcN_ok P _ hld
    have hw1 : IntKind.i64.wrap (((b.length : Nat) : Int) - 1) = ((b.length - 1 : Nat) : Int) := by rw [wrap_in (by omega)]; omega
    have hw2 : IntKind.i64.wrap (((b.headD 0 : Nat) : Int) + 1) = ((b.headD 0 + 1 : Nat) : Int) := wrap_succ (by omega)
    have hb1 : b.length - 1 < b.length := by omega
    have hcl := ci_len b
    have hpure : LV.pures [FN nl ex sz P, IL false eb 1 (ci b)] = true := by simp [LV.pures, LV.pure]
    rw [ringsU]
    by_cases hc : en P (b.getLastD 0) = st P (b.headD 0)
    · rw [if_pos hc]
      refine ⟨false, true, 1, .inr rfl, fun m => ?_⟩
      have hc' : ((en P (b.getLastD 0) : Nat) : Int) = ((st P (b.headD 0) : Nat) : Int) := by omega
      obtain rfl : eb = false := by
        rcases heb with h | h
        · exact h
        · exfalso
          match b, h with
          | [k], _ => exact (st_lt G (B.lt k (by simp))).2.2 hc.symm
      refine call_P lp_ref04_rings rfl hpure (m1 := [⟨[.int .i64 ((st P (b.headD 0) : Nat) : Int), .int .i64 ((en P (b.headD 0) : Nat) : Int)], true⟩, ⟨[.int .i64 ((st P (b.getLastD 0) : Nat) : Int), .int .i64 ((en P (b.getLastD 0) : Nat) : Int)], true⟩]) ?_ (by simp [LV.pure]) m
      simp only [FN_eq]
      simp only [ref04_rings, ref04_rings.B, exF_seq, exF_region, exF_cond, exF_ret, runL, wantL, stepL, evL, evC, LEnv.at, putL, loadFine, loadL, cellsAt, Trk.putNew, Trk.up, Trk.touch, Trk.gives, Trk.calm, Trk.hit, opdsOf, Trk.fresh, LEnv.keep, LEnv.ofFrom, List.map_cons, List.map_nil, nbeq, nble, nblt, ofAV, ofAVs, lenL, bin_sub, bin_eql, natL_nat, natL_zero, natL_one, List.any_cons, List.any_nil, Bool.or_false, Bool.or_true, Bool.and_true, Bool.false_and, Bool.not_true, Bool.not_false, Nat.reduceEqDiff, decide_true, decide_false, cond_true, cond_false, List.filter_nil, List.filter_cons, Nat.reduceAdd, Nat.reduceLeDiff, reduceCtorEq, List.length_nil, List.length_cons, Nat.mul_one, if_true, eq_self, retL, resultsL, resAllL, resOfL, List.append_nil, List.nil_append, List.cons_append, views_pures, LV.pures, LV.pure, freeze, Nat.reduceDiv, LV.cells, allocL, List.getElem?_cons_zero, List.getElem?_cons_succ, storeL, spliceL, List.take_zero, List.take_succ_cons, List.drop_zero, List.drop_succ_cons, List.drop_nil, List.take_nil, Nat.le_refl, List.set_cons_zero, List.set_cons_succ, LV.scalar, List.all_cons, List.all_nil, Nat.lt_add_one, Nat.reduceLT, fillL, hcl, hpos, b0, hhd, ok0, s0, hw1, hb1, bl, hld, okl, sl, hc']
      try rfl
    · rw [if_neg hc]
      have hc' : ¬ ((en P (b.getLastD 0) : Nat) : Int) = ((st P (b.headD 0) : Nat) : Int) := by omega
      have hrec : ∀ i, i < P.length → st P i = en P (b.getLastD 0) → freshB P b i = true → ∃ nl' ex' z, (ringsU P u (b ++ [i]) = [] ∨ z = 1) ∧ clF LP n_ref04_rings [FN nl ex sz P, rlv (ci (b ++ [i]))] [] = some (.P, .lst nl' ex' z (ringsU P u (b ++ [i])).length (rows (ringsU P u (b ++ [i]))), []) := by
        intro i hi _ hf
        obtain ⟨x, y, z, hz, h⟩ := ringsR_c G nl ex sz u (b ++ [i]) false (B.snoc hi hf) (by simp; omega) (.inl rfl)
        exact ⟨x, y, z, hz, h []⟩
      obtain ⟨v', M', he, hL⟩ := ringsR_1 eb P h12 nl ex sz b hb6 B.lt (st P (b.getLastD 0)) (en P (b.getLastD 0)) u (by omega) (fun i => ringsU P u (b ++ [i])) (fun i => ringsU_len P h12 u _) hrec (P.length - (b.headD 0 + 1)) (b.headD 0 + 1)
        [⟨[.int .i64 ((st P (b.headD 0) : Nat) : Int), .int .i64 ((en P (b.headD 0) : Nat) : Int)], true⟩, ⟨[.int .i64 ((st P (b.getLastD 0) : Nat) : Int), .int .i64 ((en P (b.getLastD 0) : Nat) : Int)], true⟩] (.lst true true 0 0 []) [] (by omega) (by simp) (Lst.nil _ 1) ⟨true, rfl⟩ (by simp [isBlk])
      rw [List.nil_append] at hL
      obtain ⟨a, c, z, ids, hz, _, _, hvw⟩ := hL.view (rows_pures _) (by omega)
      refine ⟨a, c, z, ?_, fun m => ?_⟩
      · rcases hz with h | h
        · exact .inl (List.length_eq_zero_iff.1 h)
        · exact .inr h
      · refine call_Pv lp_ref04_rings rfl hpure (m1 := M') (v := v') (ids := ids) ?_ (hvw 97) m
        simp only [FN_eq] at he ⊢
        simp only [ref04_rings, ref04_rings.B, exF_seq, exF_region, exF_block, exF_cond, exF_ret, exF_skip, runL, wantL, stepL, evL, evC, LEnv.at, putL, loadFine, loadL, cellsAt, Trk.putNew, Trk.up, Trk.touch, Trk.gives, Trk.calm, Trk.hit, opdsOf, Trk.fresh, LEnv.keep, LEnv.ofFrom, List.map_cons, List.map_nil, nbeq, nble, nblt, ofAV, ofAVs, lenL, bin_add, bin_sub, bin_eql, natL_nat, natL_zero, natL_one, List.any_cons, List.any_nil, Bool.or_false, Bool.or_true, Bool.and_true, Bool.false_and, Bool.not_true, Bool.not_false, Nat.reduceEqDiff, decide_true, decide_false, cond_true, cond_false, List.filter_nil, List.filter_cons, Nat.reduceAdd, Nat.reduceLeDiff, reduceCtorEq, List.length_nil, List.length_cons, Nat.mul_one, if_true, eq_self, retL, resultsL, resAllL, resOfL, List.append_nil, List.nil_append, List.cons_append, LV.cells, allocL, List.getElem?_cons_zero, List.getElem?_cons_succ, storeL, spliceL, List.take_zero, List.take_succ_cons, List.drop_zero, List.drop_succ_cons, List.drop_nil, List.take_nil, Nat.le_refl, List.set_cons_zero, List.set_cons_succ, LV.scalar, List.all_cons, List.all_nil, Nat.lt_add_one, Nat.reduceLT, hcl, hpos, b0, hhd, ok0, s0, hw1, hb1, bl, hld, okl, sl, hc', hw2, he]
/-- All rings, ascending. -/
def allR (P : List (Nat × Nat)) : List (List Nat) := (List.range P.length).flatMap fun i => ringsU P 6 [i]
theorem allR_loop {n : Nat} {P : List (Nat × Nat)} (G : Good n P) (nl ex : Bool) (sz : Nat) (j : Nat) : ∀ (i : Nat) (M : LMem) (v : LV) (R : List (List Nat)), i + j = P.length → R.length ≤ i * 2985984 → Lst M v 1 R.length (rows R) →
    ∃ v' M', exF LP ref04_all.L0 [(0, FN nl ex sz P), (3, v), (4, .int .i64 (i : Int))] M = some (.exit 0, [(3, v')], M') ∧ Lst M' v' 1 (R ++ (List.range' i j).flatMap fun i => ringsU P 6 [i]).length (rows (R ++ (List.range' i j).flatMap fun i => ringsU P 6 [i])) := by
  have h12 := G.le12
  induction j with
  | zero =>
    intro i M v R hi hR hL
    refine ⟨v, M, ?_, by simpa using hL⟩
    rw [ref04_all.L0_eq]
    simp only [FN_eq]
    simp only [ref04_all.B0, exF_seq, exF_region, exF_cond, exF_exit, runL, wantL, stepL, evL, LEnv.at, putL, loadFine, LEnv.keep, List.map_cons, List.map_nil, nbeq, lenL, bin_lss, Nat.reduceEqDiff, decide_true, decide_false, cond_true, cond_false, reduceCtorEq, eq_self, show ¬ ((i : Int) < (P.length : Int)) by omega]
  | succ j ih =>
    intro i M v R hi hR hL
    have h2 : i < P.length := by omega
    have hii : (i : Int) < (P.length : Int) := by omega
    have hw := wrap_succ (show i + 1 < 9223372036854775808 by omega)
    have B : Beg n P [i] := ⟨by simp, by simpa using h2, by simp⟩
    obtain ⟨x, y, z, hz, hr⟩ := ringsR_c G nl ex sz 6 [i] true B rfl (.inr rfl)
    have hsl := ringsU_len P h12 6 [i]
    have h6 : (12 : Nat) ^ 6 = 2985984 := by decide
    rw [h6] at hsl
    have hr' : ∀ m, clF LP n_ref04_rings [FN nl ex sz P, .lst false true 1 1 [.int .i64 (i : Int)]] m = some (.P, .lst x y z (ringsU P 6 [i]).length (rows (ringsU P 6 [i])), m) := hr
    have h7 : i * 2985984 ≤ 12 * 2985984 := Nat.mul_le_mul_right _ (by omega)
    obtain ⟨v2, M2, ha, hL2, _, _, _⟩ := hL.append (x := .lst x y z (ringsU P 6 [i]).length (rows (ringsU P 6 [i]))) (k := (ringsU P 6 [i]).length) (news := rows (ringsU P 6 [i])) (bytes := 24) (by
      rcases hz with h | h
      · simp [contents, nbeq, h]
      · simp [contents, nbeq, h]) (by simp) (by omega) (by omega) (rows_scalar _)
    rw [← List.map_append, ← List.length_append] at hL2
    obtain ⟨v', M', hex, hL'⟩ := ih (i + 1) M2 v2 (R ++ ringsU P 6 [i]) (by omega) (by rw [List.length_append]; omega) hL2
    refine ⟨v', M', ?_, ?_⟩
    · rw [ref04_all.L0_eq]
      simp only [FN_eq] at hr' hex ⊢
      simp only [ref04_all.B0, exF_seq, exF_region, exF_block, exF_cond, exF_skip, runL, wantL, stepL, evL, evC, LEnv.at, putL, loadFine, LEnv.keep, List.map_cons, List.map_nil, nbeq, nble, ofAV, ofAVs, lenL, bin_add, bin_lss, Bool.or_false, Bool.and_true, Nat.reduceEqDiff, decide_true, decide_false, cond_true, cond_false, Nat.reduceAdd, reduceCtorEq, List.length_nil, List.length_cons, Nat.mul_one, eq_self, List.append_nil, List.nil_append, views_pures, LV.pures, LV.pure, freeze, Nat.reduceDiv, LV.cells, spliceL, List.take_zero, List.take_succ_cons, List.drop_succ_cons, List.drop_nil, List.take_nil, Nat.le_refl, fillL, hii, hr', ha, hw, hex]
    · rw [List.range'_succ, List.flatMap_cons, ← List.append_assoc]
      exact hL'
theorem allR_len {n : Nat} {P : List (Nat × Nat)} (G : Good n P) : (allR P).length ≤ 12 * 2985984 := by
  have h12 := G.le12
  unfold allR
  have : ∀ l : List Nat, (l.flatMap fun i => ringsU P 6 [i]).length ≤ l.length * 2985984 := by
    intro l
    induction l with
    | nil => simp
    | cons i l ih =>
      have := ringsU_len P h12 6 [i]
      have h6 : (12 : Nat) ^ 6 = 2985984 := by decide
      rw [h6] at this
      rw [List.flatMap_cons, List.length_append, List.length_cons]
      omega
  have h := this (List.range P.length)
  rw [List.length_range] at h
  exact Nat.le_trans h (Nat.mul_le_mul_right _ h12)
end Go.Am.Ring


