/-
  What functions of chapter 13 compute, 12: the reference's list of all tides; its halves and friends.
-/
import Derived.Test.YtgogknjedpmcgaaWashC11
import Derived.Test.YtgogknjedpmcgaaWashP6
set_option linter.unusedVariables false
set_option linter.unusedSimpArgs false
set_option maxRecDepth 10000
namespace Go.Am.Wash
open Go.Am.G

theorem rowsL_scalar : ∀ L : List (List Nat), (rowsL L).all LV.scalar = true
  | [] => rfl
  | a :: r => by
    have := rowsL_scalar r
    simp only [rowsL, List.map_cons, List.all_cons, LV.scalar, Bool.true_and] at *
    exact this
theorem hasN_int (l : List Nat) (x : Nat) : decide ((x : Int) ∈ ci l) = hasN l x := by
  have h : ((x : Int) ∈ ci l) ↔ x ∈ l := by
    simp only [List.mem_map]
    constructor
    · rintro ⟨y, hy, e⟩
      have : y = x := by omega
      rw [← this]; exact hy
    · intro h; exact ⟨x, h, rfl⟩
  by_cases c : x ∈ l
  · rw [(hasN_iff l x).2 c]; exact decide_eq_true (h.2 c)
  · have : hasN l x = false := by rw [Bool.eq_false_iff]; intro e; exact c ((hasN_iff l x).1 e)
    rw [this]; exact decide_eq_false fun e => c (h.1 e)
theorem all_loop (N : Nat) (hN : N ≤ 7) (begun : List Nat) (hb : begun.length ≤ 20) (B : Nat) (hB : B ≤ 1000000) (f : List Nat → List (List Nat)) (n : Nat) : ∀ (i : Nat) (m : LMem) (v : LV) (k : Nat) (cs : List LV), i + n = N → Lst m v 1 k cs → k + n * B ≤ 100000000 →
    (∀ j, j < N → (f (begun ++ [j])).length ≤ B ∧ ∃ a b c, ((f (begun ++ [j])).length = 0 ∨ c = 1) ∧ ∀ m, clF LP n_ref13_all [.int .i64 (N : Int), RLn (begun ++ [j])] m = some (.P, .lst a b c (f (begun ++ [j])).length (rowsL (f (begun ++ [j]))), m)) →
    ∃ v' m', exF LP ref13_all.L0 [(0, .int .i64 (N : Int)), (1, RLn begun), (5, v), (6, .int .i64 (i : Int))] m = some (.exit 0, [(5, v')], m') ∧ Lst m' v' 1 (k + (permsC N f begun n i).length) (cs ++ rowsL (permsC N f begun n i)) := by
  induction n with
  | zero =>
    intro i m v k cs hi hL hk H
    refine ⟨v, m, ?_, by simpa [permsC] using hL⟩
    rw [ref13_all.L0_eq]
    simp only [ref13_all.B0, beqT, beqF, exF_seq, exF_region, exF_block, exF_cond, exF_ret, exF_exit, exF_skip, runL, wantL, stepL, evL, LEnv.at, putL, loadFine, loadL, cellsAt, Trk.putNew, Trk.up, Trk.touch, Trk.gives, Trk.calm, Trk.hit, opdsOf, Trk.fresh, LEnv.keep, LEnv.ofFrom, List.map_cons, List.map_nil, nbeq, nble, nblt, ofAV, ofAVs, lenL, bin_add, bin_sub, bin_mul, bin_eql, bin_neq, bin_lss, bin_leq, bin_gtr, bin_geq, natL_nat, natL_zero, natL_one, natL_two, Nat.zero_mul, List.any_cons, List.any_nil, Bool.or_false, Bool.false_or, Bool.true_or, Bool.or_true, Bool.and_true, Bool.true_and, Bool.and_false, Bool.false_and, Bool.not_true, Bool.not_false, Nat.reduceBEq, Nat.reduceEqDiff, decide_true, decide_false, cond_true, cond_false, List.filter_nil, List.filter_cons, Nat.reduceAdd, Nat.reduceLeDiff, reduceCtorEq, List.length_nil, List.length_cons, Nat.mul_one, if_true, if_false, Bool.false_eq_true, eq_self, and_true, true_and, retL, resultsL, resAllL, resOfL, List.append_nil, List.nil_append, List.cons_append, true_or, or_true, false_or, or_false, false_and, and_false, not_true_eq_false, not_false_eq_true, ne_eq, unL, trim_nil, views_pures, LV.pures, LV.pure, freeze, Nat.reduceDiv, Int.reduceEq, Int.reduceLT, Int.reduceLE, Int.natCast_zero, LV.cells, allocL, List.getElem?_cons_zero, List.getElem?_cons_succ, storeL, spliceL, List.take_zero, List.take_succ_cons, List.drop_zero, List.drop_succ_cons, List.drop_nil, List.take_nil, Nat.le_refl, Nat.reduceMul, List.set_cons_zero, List.set_cons_succ, LV.scalar, List.all_cons, List.all_nil, Nat.lt_add_one, Nat.zero_lt_one, Nat.reduceLT, Nat.lt_irrefl, fillL, List.length_append, foldIntL, kind_beq, pures_int, solids_int, plains_int, unders_int, scalars_int, show ¬ ((i : Int) < (N : Int)) by omega]
  | succ n ih =>
    intro i m v k cs hi hL hk H
    have hk' : k + B + n * B ≤ 100000000 := by rw [Nat.succ_mul] at hk; omega
    have hh := fun m => has_c (decide (ci begun = [])) (decide (ci begun = [])) (cond (decide (ci begun = [])) 0 1) (ci begun) (i : Int) (by simp; omega) m
    rw [hasN_int] at hh
    have hh : ∀ m, clF LP n_ref13_has [RLn begun, .int .i64 (i : Int)] m = some (.P, .bool (hasN begun i), m) := hh
    rw [permsC]
    cases hc : hasN begun i
    · rw [hc] at hh
      rw [cond_false]
      obtain ⟨hfl, a, b, c, hcs, hcall⟩ := H i (by omega)
      have c1 := app_clone m (decide (ci begun = [])) (decide (ci begun = [])) (cond (decide (ci begun = [])) 0 1) (ci begun) (by simp; omega) (by
        by_cases c : ci begun = []
        · exact .inl c
        · exact .inr (by simp only [c, decide_false, cond_false]))
      have c2 := app_two m (ci begun) (i : Int) (by simp; omega)
      have e : ci begun ++ [(i : Int)] = ci (begun ++ [i]) := by simp
      rw [e] at c2
      have hne : ci (begun ++ [i]) ≠ [] := by simp
      have hv : views (m ++ GM (ci (begun ++ [i]))) [.int .i64 (N : Int), GV m.length (ci (begun ++ [i]))] = some ([.int .i64 (N : Int), RLn (begun ++ [i])], [m.length]) := by
        have h1 := fun k => view_gv k (m ++ GM (ci (begun ++ [i]))) m.length (ci (begun ++ [i])) true (fun _ => by simp [GM])
        simp only [if_neg hne] at h1
        exact views_snd 32 _ _ _ _ _ h1 rfl (by simp [LV.pures, LV.pure, GV])
      obtain ⟨m3, h3, h4, h5⟩ := call_shown lp_ref13_all rfl hv (by simp [LV.pures, LV.pure]) (hcall [])
      have hL3 : Lst m3 v 1 k cs := hL.mono fun j hj => by
        have := hL.lt j hj
        rw [h4 j (by simp; omega), List.getElem?_append_left this]
      generalize f (begun ++ [i]) = F at *
      obtain ⟨v', m4, h6, h7, _⟩ := hL3.append (x := .lst a b c F.length (rowsL F)) (k := F.length) (bytes := 24) (news := rowsL F) (by rcases hcs with h | h <;> simp [contents, nbeq, h]) (by simp) (by omega) (by omega) (rowsL_scalar _)
      obtain ⟨v5, m5, h8, h9⟩ := ih (i + 1) m4 v' (k + F.length) _ (by omega) h7 (by omega) H
      refine ⟨v5, m5, ?_, ?_⟩
      · have hvn : ∀ m, views m [] = some ([], []) := fun _ => rfl
        have hfn : ∀ m, freeze [] m = m := freeze_nil
        have hvi : ∀ m (x : Int), views m [.int .i64 x] = some ([.int .i64 x], []) := fun m x => rfl
        have hci : ∀ (x : Int), (LV.int .i64 x).cells = some [.int .i64 x] := fun x => rfl
        rw [ref13_all.L0_eq]
        simp only [ref13_all.B0, beqT, beqF, exF_seq, exF_region, exF_block, exF_cond, exF_ret, exF_exit, exF_skip, runL, wantL, stepL, evL, LEnv.at, putL, loadFine, loadL, cellsAt, Trk.putNew, Trk.up, Trk.touch, Trk.gives, Trk.calm, Trk.hit, opdsOf, Trk.fresh, LEnv.keep, LEnv.ofFrom, List.map_cons, List.map_nil, nbeq, nble, nblt, ofAV, ofAVs, lenL, bin_add, bin_sub, bin_mul, bin_eql, bin_neq, bin_lss, bin_leq, bin_gtr, bin_geq, natL_nat, natL_zero, natL_one, natL_two, Nat.zero_mul, List.any_cons, List.any_nil, Bool.or_false, Bool.false_or, Bool.true_or, Bool.or_true, Bool.and_true, Bool.true_and, Bool.and_false, Bool.false_and, Bool.not_true, Bool.not_false, Nat.reduceBEq, Nat.reduceEqDiff, decide_true, decide_false, cond_true, cond_false, List.filter_nil, List.filter_cons, Nat.reduceAdd, Nat.reduceLeDiff, reduceCtorEq, List.length_nil, List.length_cons, Nat.mul_one, if_true, if_false, Bool.false_eq_true, eq_self, and_true, true_and, retL, resultsL, resAllL, resOfL, List.append_nil, List.nil_append, true_or, or_true, false_or, or_false, false_and, and_false, not_true_eq_false, not_false_eq_true, ne_eq, unL, trim_nil, LV.pures, LV.pure, Nat.reduceDiv, Int.reduceEq, Int.reduceLT, Int.reduceLE, Int.natCast_zero, allocL, List.getElem?_cons_zero, List.getElem?_cons_succ, storeL, spliceL, List.take_zero, List.take_succ_cons, List.drop_zero, List.drop_succ_cons, List.drop_nil, List.take_nil, Nat.le_refl, Nat.reduceMul, List.set_cons_zero, List.set_cons_succ, LV.scalar, List.all_cons, List.all_nil, Nat.lt_add_one, Nat.zero_lt_one, Nat.reduceLT, Nat.lt_irrefl, fillL, foldIntL, kind_beq, pures_int, solids_int, plains_int, unders_int, scalars_int, show ((i : Int) < (N : Int)) by omega, hh, hvn, hfn, c1, hci, hvi, c2, h3, h6, wrap_succ (show i + 1 < 9223372036854775808 by omega), h8]
      · have : cs ++ rowsL (F ++ permsC N f begun n (i + 1)) = cs ++ rowsL F ++ rowsL (permsC N f begun n (i + 1)) := by
          rw [rowsL, List.map_append, ← List.append_assoc]
        rw [this, List.length_append, ← Nat.add_assoc]
        exact h9
    · rw [hc] at hh
      rw [cond_true, List.nil_append]
      obtain ⟨v5, m5, h8, h9⟩ := ih (i + 1) m v k cs (by omega) hL (by omega) H
      refine ⟨v5, m5, ?_, h9⟩
      rw [ref13_all.L0_eq]
      simp only [ref13_all.B0, beqT, beqF, exF_seq, exF_region, exF_block, exF_cond, exF_ret, exF_exit, exF_skip, runL, wantL, stepL, evL, LEnv.at, putL, loadFine, loadL, cellsAt, Trk.putNew, Trk.up, Trk.touch, Trk.gives, Trk.calm, Trk.hit, opdsOf, Trk.fresh, LEnv.keep, LEnv.ofFrom, List.map_cons, List.map_nil, nbeq, nble, nblt, ofAV, ofAVs, lenL, bin_add, bin_sub, bin_mul, bin_eql, bin_neq, bin_lss, bin_leq, bin_gtr, bin_geq, natL_nat, natL_zero, natL_one, natL_two, Nat.zero_mul, List.any_cons, List.any_nil, Bool.or_false, Bool.false_or, Bool.true_or, Bool.or_true, Bool.and_true, Bool.true_and, Bool.and_false, Bool.false_and, Bool.not_true, Bool.not_false, Nat.reduceBEq, Nat.reduceEqDiff, decide_true, decide_false, cond_true, cond_false, List.filter_nil, List.filter_cons, Nat.reduceAdd, Nat.reduceLeDiff, reduceCtorEq, List.length_nil, List.length_cons, Nat.mul_one, if_true, if_false, Bool.false_eq_true, eq_self, and_true, true_and, retL, resultsL, resAllL, resOfL, List.append_nil, List.nil_append, List.cons_append, true_or, or_true, false_or, or_false, false_and, and_false, not_true_eq_false, not_false_eq_true, ne_eq, unL, trim_nil, views_pures, LV.pures, LV.pure, freeze, Nat.reduceDiv, Int.reduceEq, Int.reduceLT, Int.reduceLE, Int.natCast_zero, LV.cells, allocL, List.getElem?_cons_zero, List.getElem?_cons_succ, storeL, spliceL, List.take_zero, List.take_succ_cons, List.drop_zero, List.drop_succ_cons, List.drop_nil, List.take_nil, Nat.le_refl, Nat.reduceMul, List.set_cons_zero, List.set_cons_succ, LV.scalar, List.all_cons, List.all_nil, Nat.lt_add_one, Nat.zero_lt_one, Nat.reduceLT, Nat.lt_irrefl, fillL, List.length_append, foldIntL, kind_beq, pures_int, solids_int, plains_int, unders_int, scalars_int, show ((i : Int) < (N : Int)) by omega, hh, wrap_succ (show i + 1 < 9223372036854775808 by omega), h8]
theorem permsC_len (n : Nat) (f : List Nat → List (List Nat)) (b : List Nat) (B : Nat) (h : ∀ y, (f (b ++ [y])).length ≤ B) (k : Nat) : ∀ x, (permsC n f b k x).length ≤ k * B := by
  induction k with
  | zero => intro x; simp [permsC]
  | succ k ih =>
    intro x
    have := ih (x + 1)
    have hx := h x
    rw [permsC, List.length_append, Nat.succ_mul]
    cases hasN b x
    · rw [cond_false]; omega
    · rw [cond_true, List.length_nil]; omega
theorem perms_len (n : Nat) (d : Nat) : ∀ b, (perms n d b).length ≤ n ^ d := by
  induction d with
  | zero => intro b; simp [perms]
  | succ d ih =>
    intro b
    rw [perms, Nat.pow_succ, Nat.mul_comm]
    exact permsC_len n _ b _ (fun y => ih _) n 0
theorem all_c (N : Nat) (hN : N ≤ 7) (d : Nat) : ∀ (begun : List Nat), begun.length + d = N →
    ∃ a b c, ((perms N d begun).length = 0 ∨ c = 1) ∧ ∀ m, clF LP n_ref13_all [.int .i64 (N : Int), RLn begun] m = some (.P, .lst a b c (perms N d begun).length (rowsL (perms N d begun)), m) := by
  have hl : ∀ b : List Nat, lenL (RLn b) = some b.length := fun b => by simp [RL, lenL]
  induction d with
  | zero =>
    intro begun hb
    refine ⟨false, true, 1, .inr rfl, fun m => ?_⟩
    have hb' : (begun.length : Int) = (N : Int) := by omega
    have hci : (RLn begun).cells = some [RLn begun] := rfl
    refine call_P lp_ref13_all rfl (by simp [LV.pures, LV.pure]) (m1 := []) ?_ (by simp [LV.pures, LV.pure, perms, rowsL]) m
    simp only [RLn, RL, IL, ci_len, ci_map] at hci ⊢
    simp only [ref13_all, ref13_all.B, beqT, beqF, exF_seq, exF_region, exF_block, exF_cond, exF_ret, exF_exit, exF_skip, runL, wantL, stepL, evL, LEnv.at, putL, loadFine, loadL, cellsAt, Trk.putNew, Trk.up, Trk.touch, Trk.gives, Trk.calm, Trk.hit, opdsOf, Trk.fresh, LEnv.keep, LEnv.ofFrom, List.map_cons, List.map_nil, nbeq, nble, nblt, ofAV, ofAVs, lenL, bin_add, bin_sub, bin_mul, bin_eql, bin_neq, bin_lss, bin_leq, bin_gtr, bin_geq, natL_nat, natL_zero, natL_one, natL_two, Nat.zero_mul, List.any_cons, List.any_nil, Bool.or_false, Bool.false_or, Bool.true_or, Bool.or_true, Bool.and_true, Bool.true_and, Bool.and_false, Bool.false_and, Bool.not_true, Bool.not_false, Nat.reduceBEq, Nat.reduceEqDiff, decide_true, decide_false, cond_true, cond_false, List.filter_nil, List.filter_cons, Nat.reduceAdd, Nat.reduceLeDiff, reduceCtorEq, List.length_nil, List.length_cons, Nat.mul_one, if_true, if_false, Bool.false_eq_true, eq_self, and_true, true_and, retL, resultsL, resAllL, resOfL, List.append_nil, List.nil_append, List.cons_append, true_or, or_true, false_or, or_false, false_and, and_false, not_true_eq_false, not_false_eq_true, ne_eq, unL, trim_nil, views_pures, LV.pures, LV.pure, freeze, Nat.reduceDiv, Int.reduceEq, Int.reduceLT, Int.reduceLE, Int.natCast_zero, LV.cells, allocL, List.getElem?_cons_zero, List.getElem?_cons_succ, storeL, spliceL, List.take_zero, List.take_succ_cons, List.drop_zero, List.drop_succ_cons, List.drop_nil, List.take_nil, Nat.le_refl, Nat.reduceMul, List.set_cons_zero, List.set_cons_succ, LV.scalar, List.all_cons, List.all_nil, Nat.lt_add_one, Nat.zero_lt_one, Nat.reduceLT, Nat.lt_irrefl, fillL, List.length_append, foldIntL, kind_beq, pures_int, solids_int, plains_int, unders_int, scalars_int, ci_len, ci_map, hb', hci, perms, rowsL]
    simp only [RLn, RL, IL, ci_len, ci_map]
  | succ d ih =>
    intro begun hb
    have hpw : N ^ d ≤ 7 ^ 6 := Nat.le_trans (Nat.pow_le_pow_left hN d) (Nat.pow_le_pow_right (by omega) (by omega))
    obtain ⟨v, m', h1, h2⟩ := all_loop N hN begun (by omega) (N ^ d) (by omega) (perms N d) N 0 [] (.lst true true 0 0 []) 0 [] (by omega) (Lst.nil [] 1) (by
      have : N * N ^ d ≤ 7 * 7 ^ 6 := Nat.mul_le_mul hN hpw
      omega) (fun j hj => ⟨perms_len _ _ _, ih (begun ++ [j]) (by simp; omega)⟩)
    have hp : permsC N (perms N d) begun N 0 = perms N (d + 1) begun := rfl
    rw [hp, Nat.zero_add, List.nil_append] at h2
    obtain ⟨a, b, c, ids, hc, ha, _, hv⟩ := h2.view (rowsL_pures _) (by omega)
    refine ⟨a, b, c, hc, fun m => call_Pv lp_ref13_all rfl (by simp [LV.pures, LV.pure]) ?_ (hv 37) m⟩
    have hb' : ¬ (begun.length : Int) = (N : Int) := by omega
    simp only [Int.natCast_zero] at h1
    simp only [RLn, RL, IL, ci_len, ci_map] at h1 ⊢
    simp only [ref13_all, ref13_all.B, beqT, beqF, exF_seq, exF_region, exF_block, exF_cond, exF_ret, exF_exit, exF_skip, runL, wantL, stepL, evL, LEnv.at, putL, loadFine, loadL, cellsAt, Trk.putNew, Trk.up, Trk.touch, Trk.gives, Trk.calm, Trk.hit, opdsOf, Trk.fresh, LEnv.keep, LEnv.ofFrom, List.map_cons, List.map_nil, nbeq, nble, nblt, ofAV, ofAVs, lenL, bin_add, bin_sub, bin_mul, bin_eql, bin_neq, bin_lss, bin_leq, bin_gtr, bin_geq, natL_nat, natL_zero, natL_one, natL_two, Nat.zero_mul, List.any_cons, List.any_nil, Bool.or_false, Bool.false_or, Bool.true_or, Bool.or_true, Bool.and_true, Bool.true_and, Bool.and_false, Bool.false_and, Bool.not_true, Bool.not_false, Nat.reduceBEq, Nat.reduceEqDiff, decide_true, decide_false, cond_true, cond_false, List.filter_nil, List.filter_cons, Nat.reduceAdd, Nat.reduceLeDiff, reduceCtorEq, List.length_nil, List.length_cons, Nat.mul_one, if_true, if_false, Bool.false_eq_true, eq_self, and_true, true_and, retL, resultsL, resAllL, resOfL, List.append_nil, List.nil_append, List.cons_append, true_or, or_true, false_or, or_false, false_and, and_false, not_true_eq_false, not_false_eq_true, ne_eq, unL, trim_nil, views_pures, LV.pures, LV.pure, freeze, Nat.reduceDiv, Int.reduceEq, Int.reduceLT, Int.reduceLE, Int.natCast_zero, LV.cells, allocL, List.getElem?_cons_zero, List.getElem?_cons_succ, storeL, spliceL, List.take_zero, List.take_succ_cons, List.drop_zero, List.drop_succ_cons, List.drop_nil, List.take_nil, Nat.le_refl, Nat.reduceMul, List.set_cons_zero, List.set_cons_succ, LV.scalar, List.all_cons, List.all_nil, Nat.lt_add_one, Nat.zero_lt_one, Nat.reduceLT, Nat.lt_irrefl, fillL, List.length_append, foldIntL, kind_beq, pures_int, solids_int, plains_int, unders_int, scalars_int, ci_len, ci_map, hb', h1]
theorem permsC_all (n : Nat) (f : List Nat → List (List Nat)) (b : List Nat) (P : List Nat → Prop) (k : Nat) : ∀ x, x + k ≤ n → (∀ y, y < n → ∀ q ∈ f (b ++ [y]), P q) → ∀ q ∈ permsC n f b k x, P q := by
  induction k with
  | zero => intro x _ _ q hq; simp [permsC] at hq
  | succ k ih =>
    intro x hx H q hq
    rw [permsC, List.mem_append] at hq
    rcases hq with hq | hq
    · cases c : hasN b x
      · rw [c] at hq; exact H x (by omega) q hq
      · rw [c] at hq; simp at hq
    · exact ih (x + 1) (by omega) H q hq
theorem perms_all (n : Nat) (d : Nat) : ∀ b : List Nat, (∀ x ∈ b, x < n) → ∀ q ∈ perms n d b, q.length = b.length + d ∧ ∀ x ∈ q, x < n := by
  induction d with
  | zero => intro b hb q hq; rw [perms, List.mem_singleton] at hq; subst hq; exact ⟨rfl, hb⟩
  | succ d ih =>
    intro b hb
    refine permsC_all n _ b _ n 0 (by omega) (fun y hy q hq => ?_)
    have := ih (b ++ [y]) (fun x hx => by
      rcases List.mem_append.1 hx with h | h
      · exact hb x h
      · rw [List.mem_singleton] at h; omega) q hq
    refine ⟨?_, this.2⟩
    rw [this.1]; simp; omega

/-! ### The reference's halves -/
theorem isHalf_eq (t q : List Nat) : isHalf t q = eqN (thenN q q) t := by rw [isHalf, mapN_eq]
theorem halves_loop (nl ex : Bool) {t : List Nat} (D : Td t) (a b : Bool) (L : List (List Nat)) (hL : L.length ≤ 1000000) (hq : ∀ q ∈ L, q.length = t.length ∧ ∀ x ∈ q, x < t.length) (n : Nat) : ∀ (k : Nat) (out : List (List Nat)) (v : LV) (m : LMem), k + n = L.length → out.length ≤ k → Lst m v 1 out.length (rowsL out) →
    ∃ v' m', exF LP ref13_halves.L0 [(0, IL nl ex 1 (ci t)), (3, v), (4, .lst a b 1 L.length (rowsL L)), (5, .int .i64 (k : Int))] m = some (.exit 0, [(3, v')], m') ∧ Lst m' v' 1 (out ++ (L.drop k).filter (isHalf t)).length (rowsL (out ++ (L.drop k).filter (isHalf t))) := by
  have h7 := D.h7
  induction n with
  | zero =>
    intro k out v m hk ho hv
    refine ⟨v, m, ?_, by rw [List.drop_eq_nil_of_le (by omega)]; simpa using hv⟩
    rw [ref13_halves.L0_eq]
    simp only [ref13_halves.B0, beqT, beqF, exF_seq, exF_region, exF_block, exF_cond, exF_ret, exF_exit, exF_skip, runL, wantL, stepL, evL, LEnv.at, putL, loadFine, loadL, cellsAt, Trk.putNew, Trk.up, Trk.touch, Trk.gives, Trk.calm, Trk.hit, opdsOf, Trk.fresh, LEnv.keep, LEnv.ofFrom, List.map_cons, List.map_nil, nbeq, nble, nblt, ofAV, ofAVs, lenL, bin_add, bin_sub, bin_mul, bin_eql, bin_neq, bin_lss, bin_leq, bin_gtr, bin_geq, natL_nat, natL_zero, natL_one, natL_two, Nat.zero_mul, List.any_cons, List.any_nil, Bool.or_false, Bool.false_or, Bool.true_or, Bool.or_true, Bool.and_true, Bool.true_and, Bool.and_false, Bool.false_and, Bool.not_true, Bool.not_false, Nat.reduceBEq, Nat.reduceEqDiff, decide_true, decide_false, cond_true, cond_false, List.filter_nil, List.filter_cons, Nat.reduceAdd, Nat.reduceLeDiff, reduceCtorEq, List.length_nil, List.length_cons, Nat.mul_one, if_true, if_false, Bool.false_eq_true, eq_self, and_true, true_and, retL, resultsL, resAllL, resOfL, List.append_nil, List.nil_append, List.cons_append, true_or, or_true, false_or, or_false, false_and, and_false, not_true_eq_false, not_false_eq_true, ne_eq, unL, trim_nil, views_pures, LV.pures, LV.pure, freeze, Nat.reduceDiv, Int.reduceEq, Int.reduceLT, Int.reduceLE, Int.natCast_zero, LV.cells, allocL, List.getElem?_cons_zero, List.getElem?_cons_succ, storeL, spliceL, List.take_zero, List.take_succ_cons, List.drop_zero, List.drop_succ_cons, List.drop_nil, List.take_nil, Nat.le_refl, Nat.reduceMul, List.set_cons_zero, List.set_cons_succ, LV.scalar, List.all_cons, List.all_nil, Nat.lt_add_one, Nat.zero_lt_one, Nat.reduceLT, Nat.lt_irrefl, fillL, List.length_append, foldIntL, kind_beq, pures_int, solids_int, plains_int, unders_int, scalars_int, show ¬ ((k : Int) < (L.length : Int)) by omega]
  | succ n ih =>
    intro k out v m hk ho hv
    have h2 : k < L.length := by omega
    obtain ⟨q1, q2⟩ := hq _ (List.getElem_mem h2)
    have ht := fun p q r p' q' r' m => rthen_c p q p' q' r r' L[k] L[k] (fun x hx => by rw [q1]; exact q2 x hx) (by omega) m
    have hs := fun p q r p' q' r' m => rsame_c p q p' q' r r' (thenN L[k] L[k]) t (by rw [thenN_len, q1]) (by rw [thenN_len]; omega) m
    have hat := rowsL_at L k h2
    have hci : (RLn L[k]).cells = some [RLn L[k]] := rfl
    rw [List.drop_eq_getElem_cons h2, List.filter_cons]
    have e := isHalf_eq t L[k]
    generalize L[k] = q at *
    rw [ref13_halves.L0_eq]
    cases c : isHalf t q
    · obtain ⟨v', m', h8, h9⟩ := ih (k + 1) out v m (by omega) (by omega) hv
      rw [if_neg (by simp)]
      refine ⟨v', m', ?_, h9⟩
      rw [c] at e
      simp only [ref13_halves.B0, beqT, beqF, exF_seq, exF_region, exF_block, exF_cond, exF_ret, exF_exit, exF_skip, runL, wantL, stepL, evL, LEnv.at, putL, loadFine, loadL, cellsAt, Trk.putNew, Trk.up, Trk.touch, Trk.gives, Trk.calm, Trk.hit, opdsOf, Trk.fresh, LEnv.keep, LEnv.ofFrom, List.map_cons, List.map_nil, nbeq, nble, nblt, ofAV, ofAVs, lenL, bin_add, bin_sub, bin_mul, bin_eql, bin_neq, bin_lss, bin_leq, bin_gtr, bin_geq, natL_nat, natL_zero, natL_one, natL_two, Nat.zero_mul, List.any_cons, List.any_nil, Bool.or_false, Bool.false_or, Bool.true_or, Bool.or_true, Bool.and_true, Bool.true_and, Bool.and_false, Bool.false_and, Bool.not_true, Bool.not_false, Nat.reduceBEq, Nat.reduceEqDiff, decide_true, decide_false, cond_true, cond_false, List.filter_nil, List.filter_cons, Nat.reduceAdd, Nat.reduceLeDiff, reduceCtorEq, List.length_nil, List.length_cons, Nat.mul_one, if_true, if_false, Bool.false_eq_true, eq_self, and_true, true_and, retL, resultsL, resAllL, resOfL, List.append_nil, List.nil_append, List.cons_append, true_or, or_true, false_or, or_false, false_and, and_false, not_true_eq_false, not_false_eq_true, ne_eq, unL, trim_nil, views_pures, LV.pures, LV.pure, freeze, Nat.reduceDiv, Int.reduceEq, Int.reduceLT, Int.reduceLE, Int.natCast_zero, LV.cells, allocL, List.getElem?_cons_zero, List.getElem?_cons_succ, storeL, spliceL, List.take_zero, List.take_succ_cons, List.drop_zero, List.drop_succ_cons, List.drop_nil, List.take_nil, Nat.le_refl, Nat.reduceMul, List.set_cons_zero, List.set_cons_succ, LV.scalar, List.all_cons, List.all_nil, Nat.lt_add_one, Nat.zero_lt_one, Nat.reduceLT, Nat.lt_irrefl, fillL, List.length_append, foldIntL, kind_beq, pures_int, solids_int, plains_int, unders_int, scalars_int, show ((k : Int) < (L.length : Int)) by omega, h2, hat, ht, hs, ← e, wrap_succ (show k + 1 < 9223372036854775808 by omega), h8]
    · obtain ⟨v1, m1, h6, h7'⟩ := row_app hv q (by omega)
      obtain ⟨v', m', h8, h9⟩ := ih (k + 1) (out ++ [q]) v1 m1 (by omega) (by simp; omega) h7'
      rw [if_pos rfl]
      rw [show out ++ q :: (L.drop (k + 1)).filter (isHalf t) = (out ++ [q]) ++ (L.drop (k + 1)).filter (isHalf t) by simp]
      refine ⟨v', m', ?_, h9⟩
      rw [c] at e
      simp only [ref13_halves.B0, beqT, beqF, exF_seq, exF_region, exF_block, exF_cond, exF_ret, exF_exit, exF_skip, runL, wantL, stepL, evL, LEnv.at, putL, loadFine, loadL, cellsAt, Trk.putNew, Trk.up, Trk.touch, Trk.gives, Trk.calm, Trk.hit, opdsOf, Trk.fresh, LEnv.keep, LEnv.ofFrom, List.map_cons, List.map_nil, nbeq, nble, nblt, ofAV, ofAVs, lenL, bin_add, bin_sub, bin_mul, bin_eql, bin_neq, bin_lss, bin_leq, bin_gtr, bin_geq, natL_nat, natL_zero, natL_one, natL_two, Nat.zero_mul, List.any_cons, List.any_nil, Bool.or_false, Bool.false_or, Bool.true_or, Bool.or_true, Bool.and_true, Bool.true_and, Bool.and_false, Bool.false_and, Bool.not_true, Bool.not_false, Nat.reduceBEq, Nat.reduceEqDiff, decide_true, decide_false, cond_true, cond_false, List.filter_nil, List.filter_cons, Nat.reduceAdd, Nat.reduceLeDiff, reduceCtorEq, List.length_nil, List.length_cons, Nat.mul_one, if_true, if_false, Bool.false_eq_true, eq_self, and_true, true_and, retL, resultsL, resAllL, resOfL, List.append_nil, List.nil_append, List.cons_append, true_or, or_true, false_or, or_false, false_and, and_false, not_true_eq_false, not_false_eq_true, ne_eq, unL, trim_nil, views_pures, LV.pures, LV.pure, freeze, Nat.reduceDiv, Int.reduceEq, Int.reduceLT, Int.reduceLE, Int.natCast_zero, LV.cells, allocL, List.getElem?_cons_zero, List.getElem?_cons_succ, storeL, spliceL, List.take_zero, List.take_succ_cons, List.drop_zero, List.drop_succ_cons, List.drop_nil, List.take_nil, Nat.le_refl, Nat.reduceMul, List.set_cons_zero, List.set_cons_succ, LV.scalar, List.all_cons, List.all_nil, Nat.lt_add_one, Nat.zero_lt_one, Nat.reduceLT, Nat.lt_irrefl, fillL, List.length_append, foldIntL, kind_beq, pures_int, solids_int, plains_int, unders_int, scalars_int, show ((k : Int) < (L.length : Int)) by omega, h2, hat, ht, hs, ← e, hci, h6, wrap_succ (show k + 1 < 9223372036854775808 by omega), h8]
theorem perms_pos {t : List Nat} (D : Td t) (h6 : t.length ≤ 6) : perms t.length t.length [] ≠ [] := by
  intro c
  have h1 := D.h1
  match hn : t.length, h1, h6 with
  | 1, _, _ => rw [hn] at c; cases c
  | 2, _, _ => rw [hn] at c; cases c
  | 3, _, _ => rw [hn] at c; cases c
  | 4, _, _ => rw [hn] at c; cases c
  | 5, _, _ => rw [hn] at c; cases c
  | 6, _, _ => rw [hn] at c; cases c
theorem all_t {t : List Nat} (D : Td t) (h6 : t.length ≤ 6) : ∃ a b, ∀ m, clF LP n_ref13_all [.int .i64 (t.length : Int), .lst true true 0 0 []] m = some (.P, .lst a b 1 (perms t.length t.length []).length (rowsL (perms t.length t.length [])), m) := by
  obtain ⟨a, b, c, hc, h⟩ := all_c t.length (by omega) t.length [] (by simp)
  have hp := perms_pos D h6
  rcases hc with hc | hc
  · exact absurd (List.length_eq_zero_iff.1 hc) hp
  · subst hc
    exact ⟨a, b, h⟩
theorem rhalves_c (nl ex : Bool) {t : List Nat} (D : Td t) (h6 : t.length ≤ 6) : ∃ a b c, ((halvesF t).length = 0 ∨ c = 1) ∧ ∀ m, clF LP n_ref13_halves [IL nl ex 1 (ci t)] m = some (.P, .lst a b c (halvesF t).length (rowsL (halvesF t)), m) := by
  obtain ⟨a, b, ha⟩ := all_t D h6
  have hle : (perms t.length t.length []).length ≤ 1000000 := Nat.le_trans (perms_len _ _ _) (Nat.le_trans (Nat.pow_le_pow_left h6 _) (Nat.le_trans (Nat.pow_le_pow_right (by omega) h6) (by omega)))
  obtain ⟨v, m', h1, h2⟩ := halves_loop nl ex D a b (perms t.length t.length []) hle (fun q hq => by
    have := perms_all t.length t.length [] (by simp) q hq
    simpa using this) (perms t.length t.length []).length 0 [] (.lst true true 0 0 []) [] (by omega) (by simp) (Lst.nil [] 1)
  rw [List.nil_append, List.drop_zero, ← halvesF_ok] at h2
  simp only [Int.natCast_zero] at h1
  obtain ⟨x, y, z, ids, hc, _, _, hv⟩ := h2.view (rowsL_pures _) (by omega)
  refine ⟨x, y, z, hc, fun m => call_Pv lp_ref13_halves rfl (by simp [LV.pures, LV.pure]) ?_ (hv 37) m⟩
  generalize perms t.length t.length [] = L at *
  simp only [ref13_halves, ref13_halves.B, beqT, beqF, exF_seq, exF_region, exF_block, exF_cond, exF_ret, exF_exit, exF_skip, runL, wantL, stepL, evL, LEnv.at, putL, loadFine, loadL, cellsAt, Trk.putNew, Trk.up, Trk.touch, Trk.gives, Trk.calm, Trk.hit, opdsOf, Trk.fresh, LEnv.keep, LEnv.ofFrom, List.map_cons, List.map_nil, nbeq, nble, nblt, ofAV, ofAVs, lenL, bin_add, bin_sub, bin_mul, bin_eql, bin_neq, bin_lss, bin_leq, bin_gtr, bin_geq, natL_nat, natL_zero, natL_one, natL_two, Nat.zero_mul, List.any_cons, List.any_nil, Bool.or_false, Bool.false_or, Bool.true_or, Bool.or_true, Bool.and_true, Bool.true_and, Bool.and_false, Bool.false_and, Bool.not_true, Bool.not_false, Nat.reduceBEq, Nat.reduceEqDiff, decide_true, decide_false, cond_true, cond_false, List.filter_nil, List.filter_cons, Nat.reduceAdd, Nat.reduceLeDiff, reduceCtorEq, List.length_nil, List.length_cons, Nat.mul_one, if_true, if_false, Bool.false_eq_true, eq_self, and_true, true_and, retL, resultsL, resAllL, resOfL, List.append_nil, List.nil_append, List.cons_append, true_or, or_true, false_or, or_false, false_and, and_false, not_true_eq_false, not_false_eq_true, ne_eq, unL, trim_nil, views_pures, LV.pures, LV.pure, freeze, Nat.reduceDiv, Int.reduceEq, Int.reduceLT, Int.reduceLE, Int.natCast_zero, LV.cells, allocL, List.getElem?_cons_zero, List.getElem?_cons_succ, storeL, spliceL, List.take_zero, List.take_succ_cons, List.drop_zero, List.drop_succ_cons, List.drop_nil, List.take_nil, Nat.le_refl, Nat.reduceMul, List.set_cons_zero, List.set_cons_succ, LV.scalar, List.all_cons, List.all_nil, Nat.lt_add_one, Nat.zero_lt_one, Nat.reduceLT, Nat.lt_irrefl, fillL, List.length_append, foldIntL, kind_beq, pures_int, solids_int, plains_int, unders_int, scalars_int, ci_len, ha, h1]
theorem rHalves_c (nl ex : Bool) {t : List Nat} (D : Td t) (h6 : t.length ≤ 6) (hc : chkT (ci t) = 0) (m : LMem) : clF LP n_ref13_Halves [IL nl ex 1 (ci t)] m = some (.P, .tup [.int .i64 ((halvesF t).length : Int), .int .i64 0], m) := by
  have hck := fun m => rcheck_c nl ex (ci t) (by rw [ci_len]; omega) m
  rw [hc] at hck
  obtain ⟨a, b, c, _, hh⟩ := rhalves_c nl ex D h6
  refine call_P lp_ref13_Halves rfl (by simp [LV.pures, LV.pure]) (m1 := []) ?_ (by simp [LV.pures, LV.pure]) m
  simp only [ref13_Halves, ref13_Halves.B, beqT, beqF, exF_seq, exF_region, exF_block, exF_cond, exF_ret, exF_exit, exF_skip, runL, wantL, stepL, evL, LEnv.at, putL, loadFine, loadL, cellsAt, Trk.putNew, Trk.up, Trk.touch, Trk.gives, Trk.calm, Trk.hit, opdsOf, Trk.fresh, LEnv.keep, LEnv.ofFrom, List.map_cons, List.map_nil, nbeq, nble, nblt, ofAV, ofAVs, lenL, bin_add, bin_sub, bin_mul, bin_eql, bin_neq, bin_lss, bin_leq, bin_gtr, bin_geq, natL_nat, natL_zero, natL_one, natL_two, Nat.zero_mul, List.any_cons, List.any_nil, Bool.or_false, Bool.false_or, Bool.true_or, Bool.or_true, Bool.and_true, Bool.true_and, Bool.and_false, Bool.false_and, Bool.not_true, Bool.not_false, Nat.reduceBEq, Nat.reduceEqDiff, decide_true, decide_false, cond_true, cond_false, List.filter_nil, List.filter_cons, Nat.reduceAdd, Nat.reduceLeDiff, reduceCtorEq, List.length_nil, List.length_cons, Nat.mul_one, if_true, if_false, Bool.false_eq_true, eq_self, and_true, true_and, retL, resultsL, resAllL, resOfL, List.append_nil, List.nil_append, List.cons_append, true_or, or_true, false_or, or_false, false_and, and_false, not_true_eq_false, not_false_eq_true, ne_eq, unL, trim_nil, views_pures, LV.pures, LV.pure, freeze, Nat.reduceDiv, Int.reduceEq, Int.reduceLT, Int.reduceLE, Int.natCast_zero, LV.cells, allocL, List.getElem?_cons_zero, List.getElem?_cons_succ, storeL, spliceL, List.take_zero, List.take_succ_cons, List.drop_zero, List.drop_succ_cons, List.drop_nil, List.take_nil, Nat.le_refl, Nat.reduceMul, List.set_cons_zero, List.set_cons_succ, LV.scalar, List.all_cons, List.all_nil, Nat.lt_add_one, Nat.zero_lt_one, Nat.reduceLT, Nat.lt_irrefl, fillL, List.length_append, foldIntL, kind_beq, pures_int, solids_int, plains_int, unders_int, scalars_int, hck, hh]
theorem rHalf_c (nl ex : Bool) {t : List Nat} (D : Td t) (h6 : t.length ≤ 6) (hc : chkT (ci t) = 0) (m : LMem) : clF LP n_ref13_Half [IL nl ex 1 (ci t)] m = some (.P, .tup [RLn (match halvesF t with | [] => [] | q :: _ => q), .int .i64 (match halvesF t with | [] => 12 | _ :: _ => 0)], m) := by
  have hck := fun m => rcheck_c nl ex (ci t) (by rw [ci_len]; omega) m
  rw [hc] at hck
  obtain ⟨a, b, c, hcc, hh⟩ := rhalves_c nl ex D h6
  refine call_P lp_ref13_Half rfl (by simp [LV.pures, LV.pure]) (m1 := []) ?_ (by cases halvesF t <;> simp [LV.pures, LV.pure]) m
  cases hv : halvesF t with
  | nil =>
    rw [hv] at hh
    have hh : ∀ m, clF LP n_ref13_halves [IL nl ex 1 (ci t)] m = some (.P, .lst a b c 0 [], m) := hh
    simp only [ref13_Half, ref13_Half.B, beqT, beqF, exF_seq, exF_region, exF_block, exF_cond, exF_ret, exF_exit, exF_skip, runL, wantL, stepL, evL, LEnv.at, putL, loadFine, loadL, cellsAt, Trk.putNew, Trk.up, Trk.touch, Trk.gives, Trk.calm, Trk.hit, opdsOf, Trk.fresh, LEnv.keep, LEnv.ofFrom, List.map_cons, List.map_nil, nbeq, nble, nblt, ofAV, ofAVs, lenL, bin_add, bin_sub, bin_mul, bin_eql, bin_neq, bin_lss, bin_leq, bin_gtr, bin_geq, natL_nat, natL_zero, natL_one, natL_two, Nat.zero_mul, List.any_cons, List.any_nil, Bool.or_false, Bool.false_or, Bool.true_or, Bool.or_true, Bool.and_true, Bool.true_and, Bool.and_false, Bool.false_and, Bool.not_true, Bool.not_false, Nat.reduceBEq, Nat.reduceEqDiff, decide_true, decide_false, cond_true, cond_false, List.filter_nil, List.filter_cons, Nat.reduceAdd, Nat.reduceLeDiff, reduceCtorEq, List.length_nil, List.length_cons, Nat.mul_one, if_true, if_false, Bool.false_eq_true, eq_self, and_true, true_and, retL, resultsL, resAllL, resOfL, List.append_nil, List.nil_append, List.cons_append, true_or, or_true, false_or, or_false, false_and, and_false, not_true_eq_false, not_false_eq_true, ne_eq, unL, trim_nil, views_pures, LV.pures, LV.pure, freeze, Nat.reduceDiv, Int.reduceEq, Int.reduceLT, Int.reduceLE, Int.natCast_zero, LV.cells, allocL, List.getElem?_cons_zero, List.getElem?_cons_succ, storeL, spliceL, List.take_zero, List.take_succ_cons, List.drop_zero, List.drop_succ_cons, List.drop_nil, List.take_nil, Nat.le_refl, Nat.reduceMul, List.set_cons_zero, List.set_cons_succ, LV.scalar, List.all_cons, List.all_nil, Nat.lt_add_one, Nat.zero_lt_one, Nat.reduceLT, Nat.lt_irrefl, fillL, List.length_append, foldIntL, kind_beq, pures_int, solids_int, plains_int, unders_int, scalars_int, hck, hh]
    rfl
  | cons q r =>
    rw [hv] at hh hcc
    obtain rfl : c = 1 := by rcases hcc with c | c; simp at c; exact c
    have h0 : ¬ ((q :: r).length : Int) = 0 := by simp; omega
    have h1 : 0 < (q :: r).length := by simp
    have hat : (rowsL (q :: r))[0]? = some (RLn q) := rfl
    show _ = some (LV.tup [RLn q, LV.int .i64 0], [])
    generalize q :: r = L at *
    simp only [ref13_Half, ref13_Half.B, beqT, beqF, exF_seq, exF_region, exF_block, exF_cond, exF_ret, exF_exit, exF_skip, runL, wantL, stepL, evL, LEnv.at, putL, loadFine, loadL, cellsAt, Trk.putNew, Trk.up, Trk.touch, Trk.gives, Trk.calm, Trk.hit, opdsOf, Trk.fresh, LEnv.keep, LEnv.ofFrom, List.map_cons, List.map_nil, nbeq, nble, nblt, ofAV, ofAVs, lenL, bin_add, bin_sub, bin_mul, bin_eql, bin_neq, bin_lss, bin_leq, bin_gtr, bin_geq, natL_nat, natL_zero, natL_one, natL_two, Nat.zero_mul, List.any_cons, List.any_nil, Bool.or_false, Bool.false_or, Bool.true_or, Bool.or_true, Bool.and_true, Bool.true_and, Bool.and_false, Bool.false_and, Bool.not_true, Bool.not_false, Nat.reduceBEq, Nat.reduceEqDiff, decide_true, decide_false, cond_true, cond_false, List.filter_nil, List.filter_cons, Nat.reduceAdd, Nat.reduceLeDiff, reduceCtorEq, List.length_nil, List.length_cons, Nat.mul_one, if_true, if_false, Bool.false_eq_true, eq_self, and_true, true_and, retL, resultsL, resAllL, resOfL, List.append_nil, List.nil_append, List.cons_append, true_or, or_true, false_or, or_false, false_and, and_false, not_true_eq_false, not_false_eq_true, ne_eq, unL, trim_nil, views_pures, LV.pures, LV.pure, freeze, Nat.reduceDiv, Int.reduceEq, Int.reduceLT, Int.reduceLE, Int.natCast_zero, LV.cells, allocL, List.getElem?_cons_zero, List.getElem?_cons_succ, storeL, spliceL, List.take_zero, List.take_succ_cons, List.drop_zero, List.drop_succ_cons, List.drop_nil, List.take_nil, Nat.le_refl, Nat.reduceMul, List.set_cons_zero, List.set_cons_succ, LV.scalar, List.all_cons, List.all_nil, Nat.lt_add_one, Nat.zero_lt_one, Nat.reduceLT, Nat.lt_irrefl, fillL, List.length_append, foldIntL, kind_beq, pures_int, solids_int, plains_int, unders_int, scalars_int, hck, hh, h0, h1, hat]

end Go.Am.Wash

