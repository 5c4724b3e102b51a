/-
  What functions of chapter 04 compute, 18: finds but some, and the reference's strike.
-/
import Derived.Test.YtheppipmnfjdcaaRingC16
set_option linter.unusedVariables false
set_option linter.unusedSimpArgs false
set_option maxRecDepth 10000
namespace Go.Am.Ring
open Go.Am.G

/-- The finds but some. -/
def woF (S : List Nat) : Nat → List (Nat × Nat) → List (Nat × Nat)
  | _, [] => []
  | k, p :: r => if k ∈ S then woF S (k + 1) r else p :: woF S (k + 1) r
theorem woF_len (S : List Nat) : ∀ (l : List (Nat × Nat)) (k : Nat), (woF S k l).length ≤ l.length
  | [], k => by simp [woF]
  | p :: r, k => by
    have := woF_len S r (k + 1)
    rw [woF]
    split <;> simp <;> omega
theorem woF_mem (S : List Nat) : ∀ (l : List (Nat × Nat)) (k : Nat), ∀ p ∈ woF S k l, p ∈ l
  | [], k, p, h => by simp [woF] at h
  | q :: r, k, p, h => by
    rw [woF] at h
    split at h
    · exact List.mem_cons.2 (.inr (woF_mem S r (k + 1) p h))
    · rcases List.mem_cons.1 h with h | h
      · exact List.mem_cons.2 (.inl h)
      · exact List.mem_cons.2 (.inr (woF_mem S r (k + 1) p h))
theorem good_wo {n : Nat} {P : List (Nat × Nat)} (G : Good n P) (S : List Nat) (k : Nat) : Good n (woF S k P) :=
  ⟨G.pos, G.le6, Nat.le_trans (woF_len S P k) G.le12, fun p hp => G.lt p (woF_mem S P k p hp), fun p hp => G.ne p (woF_mem S P k p hp)⟩
theorem without_loop (P : List (Nat × Nat)) (hP : P.length ≤ 12) (nl ex : Bool) (sz : Nat) (S : List Nat) (hS : S.length ≤ 12) (j : Nat) : ∀ (i : Nat) (M : LMem) (v : LV) (out : List (Nat × Nat)), i + j = P.length → out.length ≤ i → Lst M v 2 out.length (Pcs out) →
    ∃ v' M', exF LP ref04_without.L0 [(0, FN nl ex sz P), (1, RL (ci S)), (5, v), (6, .int .i64 (i : Int))] M = some (.exit 0, [(5, v')], M') ∧ Lst M' v' 2 (out ++ woF S i (P.drop i)).length (Pcs (out ++ woF S i (P.drop i))) := by
  induction j with
  | zero =>
    intro i M v out hi ho hL
    refine ⟨v, M, ?_, by rw [List.drop_eq_nil_of_le (by omega)]; simpa [woF] using hL⟩
    rw [ref04_without.L0_eq]
    simp only [FN_eq]
    simp only [ref04_without.B0, exF_seq, exF_region, exF_cond, exF_exit, runL, wantL, stepL, evL, LEnv.at, putL, loadFine, LEnv.keep, List.map_cons, List.map_nil, nbeq, lenL, bin_lss, Nat.reduceEqDiff, decide_true, decide_false, cond_true, cond_false, reduceCtorEq, eq_self, show ¬ ((i : Int) < (P.length : Int)) by omega]
  | succ j ih =>
    intro i M v out hi ho hL
    have h2 : i < P.length := by omega
    have hii : (i : Int) < (P.length : Int) := by omega
    have hs := wrap_succ (show i + 1 < 9223372036854775808 by omega)
    have s0 := pcN_seg P i h2
    have ok := pcN_ok P i h2
    have hp := fun m => place_c (decide (ci S = [])) (decide (ci S = [])) (cond (decide (ci S = [])) 0 1) (ci S) (i : Int) (by rw [ci_len]; omega) m
    have hpm := plc_mem (ci S) (i : Int)
    rw [ci_mem] at hpm
    rw [ref04_without.L0_eq, List.drop_eq_getElem_cons h2, woF]
    by_cases c : i ∈ S
    · have c' := hpm.2 c
      rw [if_pos c]
      obtain ⟨v', M', hex, hL'⟩ := ih (i + 1) M v out (by omega) (by omega) hL
      refine ⟨v', M', ?_, hL'⟩
      simp only [FN_eq] at hex ⊢
      simp only [ref04_without.B0, exF_seq, exF_region, exF_block, exF_cond, exF_skip, runL, wantL, stepL, evL, evC, LEnv.at, putL, loadFine, LEnv.keep, List.map_cons, List.map_nil, nbeq, ofAVs, lenL, bin_add, bin_lss, Nat.reduceEqDiff, decide_true, decide_false, cond_true, cond_false, reduceCtorEq, eq_self, List.append_nil, List.nil_append, hii, hp, show ¬ plc (ci S) (i : Int) < 0 by omega, hs, hex]
    · have c' : plc (ci S) (i : Int) < 0 := by
        have : ¬ 0 ≤ plc (ci S) (i : Int) := fun h => c (hpm.1 h)
        omega
      rw [if_neg c, List.append_cons]
      obtain ⟨v3, m3, hap, hL3, _, _, _⟩ := hL.append (x := .lst false true 2 1 [.int .i64 (P[i].1 : Int), .int .i64 (P[i].2 : Int)]) (k := 1) (news := [.int .i64 (P[i].1 : Int), .int .i64 (P[i].2 : Int)]) (bytes := 16) (by simp [contents, nbeq]) rfl (by omega) (by omega) rfl
      have hL3 : Lst m3 v3 2 (out ++ [P[i]]).length (Pcs (out ++ [P[i]])) := by
        have e := Pcs_snoc out P[i].1 P[i].2
        rw [show (P[i].1, P[i].2) = P[i] from rfl] at e
        rw [e]; simpa using hL3
      obtain ⟨v', M', hex, hL'⟩ := ih (i + 1) m3 v3 (out ++ [P[i]]) (by omega) (by simp; omega) hL3
      refine ⟨v', M', ?_, hL'⟩
      simp only [FN_eq] at hex ⊢
      simp only [ref04_without.B0, exF_seq, exF_region, exF_block, exF_cond, exF_skip, runL, wantL, stepL, evL, evC, LEnv.at, putL, loadFine, loadL, cellsAt, Trk.putNew, Trk.up, Trk.touch, Trk.gives, Trk.calm, opdsOf, Trk.fresh, LEnv.keep, List.map_cons, List.map_nil, nbeq, nble, nblt, ofAV, ofAVs, lenL, bin_add, bin_lss, natL_nat, List.any_cons, List.any_nil, Bool.or_false, Bool.or_true, Bool.and_true, Bool.false_and, Bool.not_true, Bool.not_false, Nat.reduceEqDiff, decide_true, decide_false, cond_true, cond_false, List.filter_nil, Nat.reduceAdd, Nat.reduceLeDiff, reduceCtorEq, List.length_nil, List.length_cons, eq_self, List.append_nil, List.nil_append, views_pures, LV.pures, LV.pure, freeze, Nat.reduceDiv, LV.cells, spliceL, List.take_zero, List.take_succ_cons, List.drop_succ_cons, List.drop_nil, List.take_nil, Nat.le_refl, Nat.reduceMul, fillL, hii, h2, hp, c', s0, ok, hap, hs, hex]
theorem without_c (P : List (Nat × Nat)) (hP : P.length ≤ 12) (nl ex : Bool) (sz : Nat) (S : List Nat) (hS : S.length ≤ 12) : ∃ a b z, ∀ m, clF LP n_ref04_without [FN nl ex sz P, RL (ci S)] m = some (.P, FN a b z (woF S 0 P), m) := by
  obtain ⟨v', M', he, hL⟩ := without_loop P hP nl ex sz S hS P.length 0 [] (.lst true true 0 0 []) [] (by omega) (by simp) (Lst.nil [] 2)
  rw [List.nil_append, List.drop_zero] at hL
  obtain ⟨a, b, z, ids, hz, _, _, hvw⟩ := hL.view (Pcs_pures _) (by omega)
  refine ⟨a, b, z, fun m => ?_⟩
  simp only [FN_eq]
  refine call_Pv lp_ref04_without rfl (by simp [LV.pures, LV.pure]) (m1 := M') (v := v') (ids := ids) ?_ (hvw 97) m
  simp only [Int.natCast_zero] at he
  simp only [FN_eq] at he
  simp only [ref04_without, ref04_without.B, exF_seq, exF_region, exF_block, exF_ret, runL, wantL, stepL, evL, evC, LEnv.at, putL, loadFine, LEnv.keep, LEnv.ofFrom, List.map_cons, List.map_nil, nbeq, Nat.reduceEqDiff, decide_true, decide_false, cond_true, cond_false, Nat.reduceAdd, reduceCtorEq, eq_self, retL, resultsL, resAllL, resOfL, he]
def fromN (b : List Nat) : Nat := if b = [] then 0 else b.getLastD 0 + 1
/-- The first list of so many more finds that can be struck out. -/
def strikeS (P : List (Nat × Nat)) : Nat → List Nat → Option (List Nat)
  | 0, b => if allR (woF b 0 P) = [] then some b else none
  | k + 1, b => (List.range' (fromN b) (P.length - fromN b)).findSome? fun i => strikeS P k (b ++ [i])
/-- What a call of strike answers. -/
def Ans (o : Option (List Nat)) (v : LV) : Prop := match o with
  | some l => v = .tup [RL (ci l), .bool true]
  | none => ∃ w, w.pure = true ∧ v = .tup [w, .bool false]
theorem strike_loop (P : List (Nat × Nat)) (hP : P.length ≤ 12) (nl ex : Bool) (sz : Nat) (b : List Nat) (hb : b.length ≤ 12) (many : Nat) (hm : many ≤ 12)
    (hrec : ∀ i, i < P.length → ∃ v, Ans (strikeS P many (b ++ [i])) v ∧ clF LP n_ref04_strike [FN nl ex sz P, RL (ci (b ++ [i])), .int .i64 (many : Int)] [] = some (.P, v, [])) (j : Nat) :
    ∀ (i : Nat) (M : LMem), i + j = P.length →
    ∃ M', exF LP ref04_strike.L0 [(0, FN nl ex sz P), (1, RL (ci b)), (2, .int .i64 ((many + 1 : Nat) : Int)), (9, .int .i64 (i : Int))] M =
      match (List.range' i j).findSome? fun i => strikeS P many (b ++ [i]) with
      | some l => some (.ret, [(6, RL (ci l)), (7, .bool true)], M')
      | none => some (.exit 0, [], M') := by
  induction j with
  | zero =>
    intro i M hi
    refine ⟨M, ?_⟩
    rw [ref04_strike.L0_eq]
    simp only [FN_eq]
    simp only [ref04_strike.B0, exF_seq, exF_region, exF_cond, exF_exit, runL, wantL, stepL, evL, LEnv.at, putL, loadFine, LEnv.keep, List.map_cons, List.map_nil, nbeq, lenL, bin_lss, Nat.reduceEqDiff, decide_true, decide_false, cond_true, cond_false, reduceCtorEq, eq_self, show ¬ ((i : Int) < (P.length : Int)) by omega, List.range'_zero, List.findSome?_nil]
  | succ j ih =>
    intro i M hi
    have h2 : i < P.length := by omega
    have hii : (i : Int) < (P.length : Int) := by omega
    have hs := wrap_succ (show i + 1 < 9223372036854775808 by omega)
    have hw1 : IntKind.i64.wrap (((many + 1 : Nat) : Int) - 1) = (many : Int) := by rw [wrap_in (by omega)]; omega
    obtain ⟨v, hA, hr⟩ := hrec i h2
    have c1 := app_clone M (decide (ci b = [])) (decide (ci b = [])) (cond (decide (ci b = [])) 0 1) (ci b) (by rw [ci_len]; omega) (by
      by_cases h0 : ci b = []
      · exact .inl h0
      · exact .inr (by simp [h0]))
    have c2 := app_two M (ci b) (i : Int) (by rw [ci_len]; omega)
    have e1 : ci (b ++ [i]) = ci b ++ [(i : Int)] := by simp
    have hne : ci b ++ [(i : Int)] ≠ [] := by simp
    rw [e1] at hr
    have hv : views (M ++ GM (ci b ++ [(i : Int)])) [FN nl ex sz P, GV M.length (ci b ++ [(i : Int)]), .int .i64 (many : Int)] = some ([FN nl ex sz P, RL (ci b ++ [(i : Int)]), .int .i64 (many : Int)], [M.length]) := by
      have hg := view_grow 94 M (ci b ++ [(i : Int)])
      rw [if_neg hne] at hg
      show viewL 100 _ _ = _
      rw [viewL.eq_def]
      simp only [show LV.pures [FN nl ex sz P, GV M.length (ci b ++ [(i : Int)]), .int .i64 (many : Int)] = false by simp [GV, hne, LV.pures, LV.pure], cond_false]
      rw [viewC.eq_def]
      simp only [view_pure 96 _ (FN nl ex sz P) (by simp [LV.pure])]
      rw [viewC.eq_def]
      simp only [hg]
      rw [viewC.eq_def]
      simp only [view_pure 94 _ (.int .i64 (many : Int)) rfl]
      rw [viewC.eq_def]
      rfl
    obtain ⟨m1, hc, _, _, _⟩ := call_shown2 lp_ref04_strike rfl hv (by simp [LV.pures, LV.pure]) hr
    have hvn : ∀ m, views m [] = some ([], []) := fun _ => rfl
    have hfn : ∀ m, freeze [] m = m := freeze_nil
    have hvi : ∀ m (x : Int), views m [.int .i64 x] = some ([.int .i64 x], []) := fun m x => rfl
    have hci : ∀ (x : Int), (LV.int .i64 x).cells = some [.int .i64 x] := fun x => rfl
    rw [List.range'_succ, List.findSome?_cons]
    cases ho : strikeS P many (b ++ [i]) with
    | some l =>
      rw [ho] at hA
      have hA : v = .tup [RL (ci l), .bool true] := hA
      subst hA
      refine ⟨m1, ?_⟩
      rw [ref04_strike.L0_eq]
      simp only [FN_eq] at hc ⊢
      simp only [ref04_strike.B0, exF_seq, exF_region, exF_block, exF_cond, exF_ret, exF_skip, runL, wantL, stepL, evL, evC, LEnv.at, putL, loadFine, LEnv.keep, List.map_cons, List.map_nil, nbeq, nble, ofAV, ofAVs, lenL, bin_sub, bin_lss, Nat.zero_mul, Bool.or_false, Bool.or_true, Bool.and_true, Nat.reduceEqDiff, decide_true, decide_false, cond_true, cond_false, Nat.reduceAdd, reduceCtorEq, List.length_nil, List.length_cons, Nat.mul_one, eq_self, List.append_nil, List.nil_append, Nat.reduceDiv, List.getElem?_cons_zero, List.getElem?_cons_succ, spliceL, List.take_zero, List.take_succ_cons, List.drop_succ_cons, List.drop_nil, List.take_nil, Nat.le_refl, fillL, hii, hvn, hfn, c1, hvi, hci, c2, hw1, hc]
    | none =>
      rw [ho] at hA
      obtain ⟨w, hwp, hA⟩ := hA
      subst hA
      obtain ⟨M', hex⟩ := ih (i + 1) m1 (by omega)
      refine ⟨M', ?_⟩
      rw [ref04_strike.L0_eq]
      simp only [FN_eq] at hc hex ⊢
      simp only [ref04_strike.B0, exF_seq, exF_region, exF_block, exF_cond, exF_skip, runL, wantL, stepL, evL, evC, LEnv.at, putL, loadFine, LEnv.keep, List.map_cons, List.map_nil, nbeq, nble, ofAV, ofAVs, lenL, bin_add, bin_sub, bin_lss, Nat.zero_mul, Bool.or_false, Bool.or_true, Bool.and_true, Nat.reduceEqDiff, decide_true, decide_false, cond_true, cond_false, Nat.reduceAdd, reduceCtorEq, List.length_nil, List.length_cons, Nat.mul_one, eq_self, List.append_nil, List.nil_append, Nat.reduceDiv, List.getElem?_cons_zero, List.getElem?_cons_succ, spliceL, List.take_zero, List.take_succ_cons, List.drop_succ_cons, List.drop_nil, List.take_nil, Nat.le_refl, fillL, hii, hvn, hfn, c1, hvi, hci, c2, hw1, hc, hs, hex]
theorem strikeR_c {n : Nat} {P : List (Nat × Nat)} (G : Good n P) (nl ex : Bool) (sz : Nat) : ∀ (many : Nat) (b : List Nat), b.length + many ≤ 12 → (∀ k ∈ b, k < P.length) → ∃ v, Ans (strikeS P many b) v ∧ ∀ m, clF LP n_ref04_strike [FN nl ex sz P, RL (ci b), .int .i64 (many : Int)] m = some (.P, v, m)
  | 0, b, hb, hbl => by
    obtain ⟨x, y, z, hwo⟩ := without_c P G.le12 nl ex sz b (by omega)
    obtain ⟨p, q, r, _, hall⟩ := allR_c (good_wo G b 0) x y z
    have hpure : LV.pures [FN nl ex sz P, RL (ci b), .int .i64 ((0 : Nat) : Int)] = true := by simp [LV.pures, LV.pure]
    rw [strikeS]
    by_cases h : allR (woF b 0 P) = []
    · rw [if_pos h]
      refine ⟨_, rfl, fun m => ?_⟩
      rw [h] at hall
      refine call_P lp_ref04_strike rfl hpure (m1 := []) ?_ (by simp [LV.pure, LV.pures]) m
      simp only [ref04_strike, ref04_strike.B, exF_seq, exF_region, exF_cond, exF_ret, runL, wantL, stepL, evL, evC, LEnv.at, putL, loadFine, LEnv.keep, LEnv.ofFrom, List.map_cons, List.map_nil, nbeq, ofAVs, lenL, bin_eql, Nat.reduceEqDiff, decide_true, decide_false, cond_true, cond_false, Nat.reduceAdd, reduceCtorEq, List.length_nil, eq_self, retL, resultsL, resAllL, resOfL, List.append_nil, List.nil_append, Int.natCast_zero, hwo, hall]
    · rw [if_neg h]
      refine ⟨_, ⟨RL (ci b), by simp [LV.pure], rfl⟩, fun m => ?_⟩
      have hn : ¬ (((allR (woF b 0 P)).length : Int) = 0) := by
        have := List.length_pos_iff.2 h
        omega
      refine call_P lp_ref04_strike rfl hpure (m1 := []) ?_ (by simp [LV.pure, LV.pures]) m
      simp only [ref04_strike, ref04_strike.B, exF_seq, exF_region, exF_cond, exF_ret, runL, wantL, stepL, evL, evC, LEnv.at, putL, loadFine, LEnv.keep, LEnv.ofFrom, List.map_cons, List.map_nil, nbeq, ofAVs, lenL, bin_eql, Nat.reduceEqDiff, decide_true, decide_false, cond_true, cond_false, Nat.reduceAdd, reduceCtorEq, eq_self, retL, resultsL, resAllL, resOfL, List.append_nil, List.nil_append, Int.natCast_zero, hwo, hall, hn]
  | many + 1, b, hb, hbl => by
    have hrec : ∀ i, i < P.length → ∃ v, Ans (strikeS P many (b ++ [i])) v ∧ clF LP n_ref04_strike [FN nl ex sz P, RL (ci (b ++ [i])), .int .i64 (many : Int)] [] = some (.P, v, []) := by
      intro i hi
      obtain ⟨v, hA, h⟩ := strikeR_c G nl ex sz many (b ++ [i]) (by simp; omega) (by
        intro k hk
        rcases List.mem_append.1 hk with h | h
        · exact hbl k h
        · rw [List.mem_singleton.1 h]; exact hi)
      exact ⟨v, hA, h []⟩
    have hfr : fromN b ≤ P.length := by
      unfold fromN
      split
      · omega
      · rename_i hne
        have hpos : 0 < b.length := List.length_pos_iff.2 hne
        have := hbl (b.getLastD 0) (by rw [← last_el b (by omega)]; exact List.getElem_mem _)
        omega
    obtain ⟨M', he⟩ := strike_loop P G.le12 nl ex sz b (by omega) many (by omega) hrec (P.length - fromN b) (fromN b) [] (by omega)
    have hpure : LV.pures [FN nl ex sz P, RL (ci b), .int .i64 ((many + 1 : Nat) : Int)] = true := by simp [LV.pures, LV.pure]
    have hm0 : ¬ (((many + 1 : Nat) : Int) = 0) := by omega
    rw [strikeS]
    have hcl := ci_len b
    by_cases hbe : b = []
    · subst hbe
      have hf0 : fromN [] = 0 := rfl
      rw [hf0] at he ⊢
      simp only [Int.natCast_zero] at he
      have he : exF LP ref04_strike.L0 [(0, FN nl ex sz P), (1, .lst true true 0 0 []), (2, .int .i64 ((many + 1 : Nat) : Int)), (9, .int .i64 0)] [] = _ := he
      cases ho : (List.range' 0 (P.length - 0)).findSome? fun i => strikeS P many ([] ++ [i]) with
      | some l =>
        rw [ho] at he
        refine ⟨_, rfl, fun m => ?_⟩
        refine call_P lp_ref04_strike rfl hpure (m1 := M') ?_ (by simp [LV.pure, LV.pures]) m
        simp only [FN_eq] at he ⊢
        simp only [List.map_nil, RL, IL, decide_true, cond_true, List.length_nil] at he ⊢
        simp only [ref04_strike, ref04_strike.B, exF_seq, exF_region, exF_block, exF_cond, exF_skip, runL, wantL, stepL, evL, evC, LEnv.at, putL, loadFine, LEnv.keep, LEnv.ofFrom, List.map_cons, List.map_nil, nbeq, lenL, bin_eql, bin_gtr, Nat.reduceEqDiff, decide_true, decide_false, cond_true, cond_false, Nat.reduceAdd, reduceCtorEq, eq_self, retL, resultsL, resAllL, resOfL, Int.natCast_zero, hm0, Int.lt_irrefl, he]
      | none =>
        rw [ho] at he
        refine ⟨_, ⟨.lst true true 0 0 [], rfl, rfl⟩, fun m => ?_⟩
        refine call_P lp_ref04_strike rfl hpure (m1 := M') ?_ rfl m
        simp only [FN_eq] at he ⊢
        simp only [List.map_nil, RL, IL, decide_true, cond_true, List.length_nil] at he ⊢
        simp only [ref04_strike, ref04_strike.B, exF_seq, exF_region, exF_block, exF_cond, exF_ret, exF_skip, runL, wantL, stepL, evL, evC, LEnv.at, putL, loadFine, LEnv.keep, LEnv.ofFrom, List.map_cons, List.map_nil, nbeq, lenL, bin_eql, bin_gtr, Nat.reduceEqDiff, decide_true, decide_false, cond_true, cond_false, Nat.reduceAdd, reduceCtorEq, eq_self, retL, resultsL, resAllL, resOfL, Int.natCast_zero, hm0, Int.lt_irrefl, he]
    · have hpos : 0 < b.length := List.length_pos_iff.2 hbe
      have hpi : (0 : Int) < (b.length : Int) := by omega
      have hat : (ci b).map (LV.int .i64) = b.map fun y : Nat => LV.int .i64 (y : Int) := by simp
      have bl := nat_at .i64 b (b.length - 1) (by omega)
      rw [← hat, last_el b (by omega)] at bl
      have hld : b.getLastD 0 < P.length := hbl _ (by rw [← last_el b (by omega)]; exact List.getElem_mem _)
      have hw1 : IntKind.i64.wrap (((b.length : Nat) : Int) - 1) = ((b.length - 1 : Nat) : Int) := by rw [wrap_in (by omega)]; omega
      have h12 := G.le12
      have hw2 : IntKind.i64.wrap (((b.getLastD 0 : Nat) : Int) + 1) = ((fromN b : Nat) : Int) := by
        rw [wrap_succ (by omega)]; unfold fromN; rw [if_neg hbe]
      have hb1 : b.length - 1 < b.length := by omega
      cases ho : (List.range' (fromN b) (P.length - fromN b)).findSome? fun i => strikeS P many (b ++ [i]) with
      | some l =>
        rw [ho] at he
        refine ⟨_, rfl, fun m => ?_⟩
        refine call_P lp_ref04_strike rfl hpure (m1 := M') ?_ (by simp [LV.pure, LV.pures]) m
        simp only [FN_eq] at he ⊢
        simp only [ref04_strike, ref04_strike.B, exF_seq, exF_region, exF_block, exF_cond, exF_ret, exF_skip, runL, wantL, stepL, evL, evC, LEnv.at, putL, loadFine, loadL, cellsAt, Trk.putNew, Trk.up, Trk.touch, Trk.gives, Trk.calm, opdsOf, Trk.fresh, LEnv.keep, LEnv.ofFrom, List.map_cons, List.map_nil, nbeq, nble, nblt, lenL, bin_add, bin_sub, bin_eql, bin_gtr, natL_nat, List.any_cons, List.any_nil, Bool.or_false, Bool.or_true, Bool.and_true, Bool.false_and, Bool.not_true, Bool.not_false, Nat.reduceEqDiff, decide_true, decide_false, cond_true, cond_false, List.filter_nil, Nat.reduceAdd, Nat.reduceLeDiff, reduceCtorEq, List.length_nil, Nat.mul_one, eq_self, retL, resultsL, resAllL, resOfL, hm0, hcl, hpi, hw1, hb1, bl, hw2] at he ⊢
        simp only [LEnv.at, nbeq, Nat.reduceEqDiff, decide_true, decide_false, cond_true, cond_false, eq_self, he]
      | none =>
        rw [ho] at he
        refine ⟨_, ⟨.lst true true 0 0 [], rfl, rfl⟩, fun m => ?_⟩
        refine call_P lp_ref04_strike rfl hpure (m1 := M') ?_ rfl m
        simp only [FN_eq] at he ⊢
        simp only [ref04_strike, ref04_strike.B, exF_seq, exF_region, exF_block, exF_cond, exF_ret, exF_skip, runL, wantL, stepL, evL, evC, LEnv.at, putL, loadFine, loadL, cellsAt, Trk.putNew, Trk.up, Trk.touch, Trk.gives, Trk.calm, opdsOf, Trk.fresh, LEnv.keep, LEnv.ofFrom, List.map_cons, List.map_nil, nbeq, nble, nblt, lenL, bin_add, bin_sub, bin_eql, bin_gtr, natL_nat, List.any_cons, List.any_nil, Bool.or_false, Bool.or_true, Bool.and_true, Bool.false_and, Bool.not_true, Bool.not_false, Nat.reduceEqDiff, decide_true, decide_false, cond_true, cond_false, List.filter_nil, Nat.reduceAdd, Nat.reduceLeDiff, reduceCtorEq, List.length_nil, Nat.mul_one, eq_self, retL, resultsL, resAllL, resOfL, hm0, hcl, hpi, hw1, hb1, bl, hw2] at he ⊢
        simp only [LEnv.at, nbeq, Nat.reduceEqDiff, decide_true, decide_false, cond_true, cond_false, eq_self, he]
theorem StrikeR_loop {n : Nat} {P : List (Nat × Nat)} (G : Good n P) (nl ex : Bool) (sz : Nat) (l : List Nat) (t : Nat) (ht : t ≤ 12) (hl : strikeS P t [] = some l) (j : Nat) : ∀ (k : Nat) (x : LV) (s : Bool), k + j = t → (∀ i, k ≤ i → i < t → strikeS P i [] = none) → Ans (strikeS P k []) (.tup [x, .bool s]) →
    ∃ k' : Int, exF LP ref04_Strike.L0 [(1, FN nl ex sz P), (7, .int .i64 (k : Int)), (8, x), (9, .bool s)] [] = some (.exit 0, [(8, RL (ci l))], []) := by
  induction j with
  | zero =>
    intro k x s hk hno hA
    obtain rfl : k = t := by omega
    rw [hl] at hA
    have hA : LV.tup [x, .bool s] = .tup [RL (ci l), .bool true] := hA
    simp only [LV.tup.injEq, List.cons.injEq, LV.bool.injEq, and_true] at hA
    obtain ⟨rfl, rfl⟩ := hA
    refine ⟨0, ?_⟩
    rw [ref04_Strike.L0_eq]
    simp only [ref04_Strike.B0, exF_seq, exF_region, exF_cond, exF_exit, runL, wantL, stepL, evL, LEnv.at, putL, loadFine, LEnv.keep, List.map_cons, List.map_nil, nbeq, Bool.not_true, Nat.reduceEqDiff, decide_true, decide_false, cond_true, cond_false, eq_self, unL]
  | succ j ih =>
    intro k x s hk hno hA
    rw [hno k (Nat.le_refl _) (by omega)] at hA
    obtain ⟨w, hwp, hA⟩ := hA
    simp only [LV.tup.injEq, List.cons.injEq, LV.bool.injEq, and_true] at hA
    obtain ⟨rfl, rfl⟩ := hA
    obtain ⟨v, hv, hc⟩ := strikeR_c G nl ex sz (k + 1) [] (by simp; omega) (by simp)
    have hw := wrap_succ (show k + 1 < 9223372036854775808 by omega)
    have hc : ∀ m, clF LP n_ref04_strike [FN nl ex sz P, .lst true true 0 0 [], .int .i64 ((k + 1 : Nat) : Int)] m = some (.P, v, m) := hc
    obtain ⟨y, s', rfl⟩ : ∃ y s', v = .tup [y, .bool s'] := by
      unfold Ans at hv
      split at hv
      · exact ⟨_, _, hv⟩
      · obtain ⟨w, _, h⟩ := hv; exact ⟨_, _, h⟩
    obtain ⟨k', hex⟩ := ih (k + 1) y s' (by omega) (fun i h1 h2 => hno i (by omega) h2) hv
    refine ⟨k', ?_⟩
    rw [ref04_Strike.L0_eq]
    simp only [FN_eq] at hc hex ⊢
    simp only [ref04_Strike.B0, exF_seq, exF_region, exF_block, exF_cond, exF_skip, runL, wantL, stepL, evL, evC, LEnv.at, putL, loadFine, LEnv.keep, List.map_cons, List.map_nil, nbeq, ofAVs, bin_add, Bool.not_false, Nat.reduceEqDiff, decide_true, decide_false, cond_true, cond_false, eq_self, List.append_nil, List.nil_append, unL, List.getElem?_cons_zero, List.getElem?_cons_succ, hw, hc, hex]
theorem StrikeR_c {n : Nat} {P : List (Nat × Nat)} (G : Good n P) (nl ex : Bool) (sz : Nat) (l : List Nat) (t : Nat) (ht : t ≤ 12) (hl : strikeS P t [] = some l) (hno : ∀ i, i < t → strikeS P i [] = none) (m : LMem) :
    clF LP n_ref04_Strike [.int .i64 (n : Int), FN nl ex sz P] m = some (.P, .tup [RL (ci l), .int .i64 0], m) := by
  have hck := fun m => checkR_c nl ex sz (n : Int) (P.map castP) (by have := G.le12; simp; omega) m
  rw [chkF_of G] at hck
  obtain ⟨v, hv, hc⟩ := strikeR_c G nl ex sz 0 [] (by simp) (by simp)
  obtain ⟨y, s', rfl⟩ : ∃ y s', v = .tup [y, .bool s'] := by
    unfold Ans at hv
    split at hv
    · exact ⟨_, _, hv⟩
    · obtain ⟨w, _, h⟩ := hv; exact ⟨_, _, h⟩
  obtain ⟨k', he⟩ := StrikeR_loop G nl ex sz l t ht hl t 0 y s' (by omega) (fun i _ h => hno i h) hv
  have hc : ∀ m, clF LP n_ref04_strike [FN nl ex sz P, .lst true true 0 0 [], .int .i64 0] m = some (.P, .tup [y, .bool s'], m) := hc
  simp only [Int.natCast_zero] at he
  refine call_P lp_ref04_Strike rfl (by simp [LV.pures, LV.pure]) (m1 := []) ?_ (by simp [LV.pure, LV.pures]) m
  simp only [FN_eq] at hck hc he ⊢
  simp only [ref04_Strike, ref04_Strike.B, exF_seq, exF_region, exF_block, exF_cond, exF_ret, exF_skip, runL, wantL, stepL, evL, evC, LEnv.at, putL, loadFine, LEnv.keep, LEnv.ofFrom, List.map_cons, List.map_nil, nbeq, ofAVs, bin_neq, Nat.reduceEqDiff, decide_true, decide_false, cond_true, cond_false, Nat.reduceAdd, reduceCtorEq, eq_self, retL, resultsL, resAllL, resOfL, List.append_nil, List.nil_append, not_true_eq_false, ne_eq, List.getElem?_cons_zero, List.getElem?_cons_succ, hck, hc, he]
theorem StrikeR_e (N : Int) (l : List (Int × Int)) (hl : l.length < 1000000) (h : chkF N l ≠ 0) (nl ex : Bool) (sz : Nat) (m : LMem) :
    clF LP n_ref04_Strike [.int .i64 N, FL nl ex sz l] m = some (.P, .tup [.lst true true 0 0 [], .int .i64 (chkF N l)], m) := by
  have hc := fun m => checkR_c nl ex sz N l hl m
  refine call_P lp_ref04_Strike rfl (by simp [LV.pures, LV.pure]) (m1 := []) ?_ rfl m
  simp only [ref04_Strike, ref04_Strike.B, exF_seq, exF_region, exF_cond, exF_ret, runL, wantL, stepL, evL, evC, LEnv.at, putL, loadFine, LEnv.keep, LEnv.ofFrom, List.map_cons, List.map_nil, nbeq, ofAVs, bin_neq, Nat.reduceEqDiff, decide_true, decide_false, cond_true, cond_false, Nat.reduceAdd, reduceCtorEq, eq_self, retL, resultsL, resAllL, resOfL, List.append_nil, List.nil_append, not_false_eq_true, ne_eq, hc, h]
end Go.Am.Ring

