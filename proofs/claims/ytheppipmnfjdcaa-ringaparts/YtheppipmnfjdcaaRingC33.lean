import Derived.Test.YtheppipmnfjdcaaRingC32
import Derived.Test.YtheppipmnfjdcaaLaw1
import Derived.Carry
/-
  What functions of chapter 04 compute, 33: the most rings apart, of the reference, and the law RingAparts.
-/
set_option linter.unusedVariables false
set_option linter.unusedSimpArgs false
set_option maxRecDepth 10000
namespace Go.Am.Ring
open Go.Am.G

theorem disjoint_loop (a b : List Nat) (ha : a.length < 1000) (hb : b.length < 1000) (n : Nat) : ∀ k, k + n = a.length →
    exF LP ref04_disjoint.L0 [(0, rlv (ci a)), (1, rlv (ci b)), (5, .int .i64 (k : Int))] [] = if Dis (a.drop k) b then some (.exit 0, [], []) else some (.ret, [(4, .bool false)], []) := by
  have hcl := ci_len a
  have hcl2 := ci_len b
  induction n with
  | zero =>
    intro k hk
    rw [ref04_disjoint.L0_eq, List.drop_eq_nil_of_le (show a.length ≤ k by omega), if_pos (by intro x hx; simp at hx)]
    simp only [rlv, IL, hcl, hcl2]
    generalize (ci a).map (LV.int .i64) = row at *
    generalize (ci b).map (LV.int .i64) = row2 at *
    simp only [ref04_disjoint.B0, exF_seq, exF_region, exF_cond, exF_exit, runL, wantL, stepL, evL, LEnv.at, putL, loadFine, LEnv.keep, List.map_cons, List.map_nil, nbeq, lenL, bin_lss, Nat.reduceEqDiff, decide_true, decide_false, cond_true, cond_false, reduceCtorEq, eq_self, show ¬ ((k : Int) < (a.length : Int)) by omega]
  | succ n ih =>
    intro k hk
    have h2 : k < a.length := by omega
    have ih := ih (k + 1) (by omega)
    have hat : (ci a).map (LV.int .i64) = a.map fun y : Nat => LV.int .i64 (y : Int) := by simp
    have b0 := nat_at .i64 a k h2
    rw [← hat] at b0
    have hp := fun m => place_c false false 1 (ci b) (a[k] : Int) (by rw [hcl2]; omega) m
    have hpm := plc_mem (ci b) (a[k] : Int)
    rw [ci_mem] at hpm
    rw [ref04_disjoint.L0_eq, List.drop_eq_getElem_cons h2]
    have hD : Dis (a[k] :: a.drop (k + 1)) b ↔ a[k] ∉ b ∧ Dis (a.drop (k + 1)) b := by
      exact List.forall_mem_cons
    simp only [rlv, IL, hcl, hcl2] at ih hp ⊢
    generalize (ci a).map (LV.int .i64) = row at *
    generalize hrow2 : (ci b).map (LV.int .i64) = row2 at *
    by_cases c : a[k] ∈ b
    · have c' := hpm.2 c
      rw [if_neg (fun h => (hD.1 h).1 c)]
      simp only [ref04_disjoint.B0, exF_seq, exF_region, exF_block, exF_cond, exF_ret, exF_skip, runL, wantL, stepL, evL, evC, LEnv.at, putL, loadFine, loadL, cellsAt, Trk.putNew, Trk.up, Trk.touch, Trk.gives, Trk.calm, opdsOf, Trk.fresh, LEnv.keep, List.map_cons, List.map_nil, nbeq, nble, nblt, ofAVs, lenL, bin_lss, bin_geq, natL_nat, List.any_cons, List.any_nil, Bool.or_false, Bool.or_true, Bool.and_true, Bool.false_and, Bool.not_true, Bool.not_false, Nat.reduceEqDiff, decide_true, decide_false, cond_true, cond_false, List.filter_nil, Nat.reduceAdd, Nat.reduceLeDiff, reduceCtorEq, List.length_nil, Nat.mul_one, eq_self, List.append_nil, List.nil_append, show ((k : Int) < (a.length : Int)) by omega, h2, b0, hp, c']
    · have c' : ¬ 0 ≤ plc (ci b) (a[k] : Int) := fun h => c (hpm.1 h)
      have e : (Dis (a[k] :: a.drop (k + 1)) b) = (Dis (a.drop (k + 1)) b) := propext ⟨fun h => (hD.1 h).2, fun h => hD.2 ⟨c, h⟩⟩
      simp only [e]
      rw [← ih]
      simp only [ref04_disjoint.B0, exF_seq, exF_region, exF_block, exF_cond, exF_skip, runL, wantL, stepL, evL, evC, LEnv.at, putL, loadFine, loadL, cellsAt, Trk.putNew, Trk.up, Trk.touch, Trk.gives, Trk.calm, opdsOf, Trk.fresh, LEnv.keep, List.map_cons, List.map_nil, nbeq, nble, nblt, ofAVs, lenL, bin_add, bin_lss, bin_geq, natL_nat, List.any_cons, List.any_nil, Bool.or_false, Bool.or_true, Bool.and_true, Bool.false_and, Bool.not_true, Bool.not_false, Nat.reduceEqDiff, decide_true, decide_false, cond_true, cond_false, List.filter_nil, Nat.reduceAdd, Nat.reduceLeDiff, reduceCtorEq, List.length_nil, Nat.mul_one, eq_self, List.append_nil, List.nil_append, show ((k : Int) < (a.length : Int)) by omega, h2, b0, hp, c', wrap_succ (show k + 1 < 9223372036854775808 by omega)]
theorem disjoint_c (a b : List Nat) (ha : a.length < 1000) (hb : b.length < 1000) (m : LMem) : clF LP n_ref04_disjoint [rlv (ci a), rlv (ci b)] m = some (.P, .bool (decide (Dis a b)), m) := by
  refine call_P lp_ref04_disjoint rfl (by simp [LV.pures, LV.pure]) (m1 := []) ?_ rfl m
  have h := disjoint_loop a b ha hb a.length 0 (by omega)
  rw [List.drop_zero] at h
  simp only [Int.natCast_zero] at h
  generalize rlv (ci a) = ra at *
  generalize rlv (ci b) = rb at *
  by_cases c : Dis a b
  · rw [if_pos c] at h
    rw [decide_eq_true c]
    simp only [ref04_disjoint, ref04_disjoint.B, exF_seq, exF_region, exF_block, exF_ret, runL, wantL, stepL, evL, evC, LEnv.at, putL, loadFine, LEnv.keep, LEnv.ofFrom, List.map_cons, List.map_nil, nbeq, Nat.reduceEqDiff, decide_true, decide_false, cond_true, cond_false, Nat.reduceAdd, reduceCtorEq, eq_self, retL, resultsL, resAllL, resOfL, h]
  · rw [if_neg c] at h
    rw [decide_eq_false c]
    simp only [ref04_disjoint, ref04_disjoint.B, exF_seq, exF_region, exF_block, runL, wantL, stepL, evL, evC, LEnv.at, putL, loadFine, LEnv.keep, LEnv.ofFrom, List.map_cons, List.map_nil, nbeq, Nat.reduceEqDiff, decide_true, decide_false, cond_true, cond_false, Nat.reduceAdd, reduceCtorEq, eq_self, retL, resultsL, resAllL, resOfL, h]
theorem rest_loop (l : List (List Nat)) (hl : ∀ r ∈ l, r.length < 1000) (hll : l.length < 1000000000) (h0 : 0 < l.length) (nl ex : Bool) (sz : Nat) (j : Nat) : ∀ (k : Nat) (M : LMem) (v : LV) (out : List (List Nat)), k + j = l.length → out.length ≤ k → Lst M v 1 out.length (rows out) →
    ∃ v' M', exF LP ref04_apart.L0 [(0, .lst nl ex sz l.length (rows l)), (3, v), (4, .int .i64 (k : Int))] M = some (.exit 0, [(0, .lst nl ex sz l.length (rows l)), (3, v')], M') ∧ Lst M' v' 1 (out ++ disT l[0] (l.drop k)).length (rows (out ++ disT l[0] (l.drop k))) := by
  induction j with
  | zero =>
    intro k M v out hk ho hL
    refine ⟨v, M, ?_, by rw [List.drop_eq_nil_of_le (show l.length ≤ k by omega)]; simpa [disT] using hL⟩
    rw [ref04_apart.L0_eq]
    generalize rows l = RR at *
    simp only [ref04_apart.B0, exF_seq, exF_region, exF_cond, exF_exit, runL, wantL, stepL, evL, LEnv.at, putL, loadFine, LEnv.keep, List.map_cons, List.map_nil, nbeq, lenL, bin_lss, Nat.reduceEqDiff, decide_true, decide_false, cond_true, cond_false, reduceCtorEq, eq_self, show ¬ ((k : Int) < (l.length : Int)) by omega]
  | succ j ih =>
    intro k M v out hk ho hL
    have h2 : k < l.length := by omega
    have hkk : (k : Int) < (l.length : Int) := by omega
    have hw := wrap_succ (show k + 1 < 9223372036854775808 by omega)
    have r0 := rowN_at l 0 h0
    have rk := rowN_at l k h2
    have hd := fun m => disjoint_c l[0] l[k] (hl _ (List.getElem_mem h0)) (hl _ (List.getElem_mem h2)) m
    rw [List.drop_eq_getElem_cons h2, disT, List.filter_cons]
    by_cases c : Dis l[0] l[k]
    · rw [if_pos (decide_eq_true c)]
      rw [decide_eq_true c] at hd
      obtain ⟨v3, m3, hap, hL3, _, _, _⟩ := hL.append (x := .lst false true 1 1 [rlv (ci l[k])]) (k := 1) (news := [rlv (ci l[k])]) (bytes := 24) (by simp [contents, nbeq]) rfl (by omega) (by omega) rfl
      have hL3 : Lst m3 v3 1 (out ++ [l[k]]).length (rows (out ++ [l[k]])) := by
        have e : rows (out ++ [l[k]]) = rows out ++ [rlv (ci l[k])] := by simp
        rw [e]; simpa using hL3
      obtain ⟨v', M', hex, hL'⟩ := ih (k + 1) m3 v3 (out ++ [l[k]]) (by omega) (by simp; omega) hL3
      refine ⟨v', M', ?_, by rw [List.append_assoc] at hL'; exact hL'⟩
      rw [ref04_apart.L0_eq]
      have hvw : ∀ (M : LMem), views M [rlv (ci l[k])] = some ([rlv (ci l[k])], []) := fun M => views_pures _ _ (by simp [LV.pures, LV.pure])
      have hsc : (rlv (ci l[k])).cells = some [rlv (ci l[k])] := rfl
      generalize rows l = RR at *
      generalize rlv (ci l[0]) = q0 at *
      generalize rlv (ci l[k]) = qk at *
      simp only [ref04_apart.B0, exF_seq, exF_region, exF_block, exF_cond, exF_skip, runL, wantL, stepL, evL, evC, LEnv.at, putL, loadFine, loadL, cellsAt, Trk.putNew, Trk.up, Trk.touch, Trk.gives, Trk.calm, opdsOf, Trk.fresh, LEnv.keep, List.map_cons, List.map_nil, nbeq, nble, nblt, ofAV, ofAVs, lenL, bin_add, bin_lss, natL_nat, natL_zero, List.any_cons, List.any_nil, Bool.or_false, Bool.or_true, Bool.and_true, Bool.false_and, Bool.not_true, Bool.not_false, Nat.reduceEqDiff, decide_true, decide_false, cond_true, cond_false, List.filter_nil, Nat.reduceAdd, Nat.reduceLeDiff, reduceCtorEq, List.length_nil, List.length_cons, Nat.mul_one, eq_self, List.append_nil, List.nil_append, Nat.reduceDiv, spliceL, List.take_zero, List.take_succ_cons, List.drop_zero, List.drop_succ_cons, List.drop_nil, List.take_nil, Nat.le_refl, fillL, hkk, h0, h2, r0, rk, hd, hvw, freeze_nil, hsc, hap, hw, hex]
    · rw [if_neg (by simpa using c)]
      rw [decide_eq_false c] at hd
      obtain ⟨v', M', hex, hL'⟩ := ih (k + 1) M v out (by omega) (by omega) hL
      refine ⟨v', M', ?_, hL'⟩
      rw [ref04_apart.L0_eq]
      generalize rows l = RR at *
      generalize rlv (ci l[0]) = q0 at *
      generalize rlv (ci l[k]) = qk at *
      simp only [ref04_apart.B0, exF_seq, exF_region, exF_block, exF_cond, exF_skip, runL, wantL, stepL, evL, evC, LEnv.at, putL, loadFine, loadL, cellsAt, Trk.putNew, Trk.up, Trk.touch, Trk.gives, Trk.calm, opdsOf, Trk.fresh, LEnv.keep, List.map_cons, List.map_nil, nbeq, nble, nblt, ofAVs, lenL, bin_add, bin_lss, natL_nat, natL_zero, List.any_cons, List.any_nil, Bool.or_false, Bool.or_true, Bool.and_true, Bool.false_and, Bool.not_true, Bool.not_false, Nat.reduceEqDiff, decide_true, decide_false, cond_true, cond_false, List.filter_nil, Nat.reduceAdd, reduceCtorEq, Nat.mul_one, eq_self, List.append_nil, List.nil_append, List.drop_zero, Nat.le_refl, hkk, h0, h2, r0, rk, hd, hw, hex]
theorem apartR_c : ∀ (d : Nat) (l : List (List Nat)) (nl ex : Bool) (sz : Nat), l.length ≤ d → (∀ r ∈ l, r.length < 1000) → l.length < 1000000000 → (l = [] ∨ (sz = 1 ∧ nl = false)) → ∃ a b z, (ap l = [] ∨ (z = 1 ∧ a = false)) ∧ ∀ m, clF LP n_ref04_apart [.lst nl ex sz l.length (rows l)] m = some (.P, .lst a b z (ap l).length (rows (ap l)), m)
  | _, [], nl, ex, sz, _, _, _, _ => by
    refine ⟨true, true, 0, .inl ap_nil, fun m => ?_⟩
    rw [ap_nil]
    refine call_P lp_ref04_apart rfl (by simp [LV.pures, LV.pure]) (m1 := []) ?_ rfl m
    simp only [List.map_nil, List.length_nil]
    simp only [ref04_apart, ref04_apart.B, exF_seq, exF_region, exF_cond, exF_ret, runL, wantL, stepL, evL, evC, LEnv.at, putL, loadFine, LEnv.keep, LEnv.ofFrom, List.map_cons, List.map_nil, nbeq, lenL, bin_eql, Nat.reduceEqDiff, decide_true, decide_false, cond_true, cond_false, reduceCtorEq, eq_self, retL, resultsL, resAllL, resOfL, Int.natCast_zero]
  | 0, r :: t, _, _, _, h, _, _, _ => by simp at h
  | d + 1, r :: t, nl, ex, sz, h, hl, hll, hsz => by
    obtain ⟨rfl, rfl⟩ : sz = 1 ∧ nl = false := by
      rcases hsz with h | h
      · cases h
      · exact h
    simp only [List.length_cons] at h hll
    have hdl := disT_le r t
    have hsub : ∀ q ∈ disT r t, q ∈ t := fun q hq => (List.mem_filter.1 hq).1
    obtain ⟨vr, M1, hex, hL⟩ := rest_loop (r :: t) hl (by simp; omega) (by simp) false ex 1 t.length 1 [] (.lst true true 0 0 []) [] (by simp; omega) (by simp) (Lst.nil _ 1)
    rw [List.nil_append, List.drop_succ_cons, List.drop_zero] at hL
    have hL : Lst M1 vr 1 (disT r t).length (rows (disT r t)) := hL
    obtain ⟨a1, b1, z1, ids, hz1, hn1, _, hvw⟩ := hL.view (rows_pures _) (by omega)
    obtain ⟨a2, b2, z2, hz2, hc2⟩ := apartR_c d (disT r t) a1 b1 z1 (by omega) (fun q hq => hl q (by simp [hsub q hq])) (by omega) (by
      rcases hz1 with h | h
      · exact .inl (List.length_eq_zero_iff.1 h)
      · by_cases c : disT r t = []
        · exact .inl c
        · refine .inr ⟨h, ?_⟩
          cases a1
          · rfl
          · exact absurd (List.length_eq_zero_iff.1 (hn1 rfl)) c)
    -- the call for the rest
    have hcall : ∃ M2, clF LP n_ref04_apart [vr] M1 = some (.P, .lst a2 b2 z2 (ap (disT r t)).length (rows (ap (disT r t))), M2) := by
      by_cases hp : LV.pures [vr] = true
      · have e1 := hvw 97
        have hvp : vr.pure = true := by simpa [LV.pures] using hp
        rw [view_pure 98 M1 vr hvp] at e1
        simp only [Option.some.injEq, Prod.mk.injEq] at e1
        exact ⟨M1, by rw [e1.1]; exact hc2 M1⟩
      · obtain ⟨M2, h1, _, _⟩ := call_shown lp_ref04_apart rfl (views_one 92 M1 vr _ ids hvw (by simpa using hp)) (by simp [LV.pures, LV.pure]) (hc2 [])
        exact ⟨M2, h1⟩
    obtain ⟨M2, hcall⟩ := hcall
    have hapl := (ap_sub _ (disT r t) (Nat.le_refl _)).1.length_le
    have hLw0 : Lst M2 (.lst false true 1 1 [rlv (ci r)]) 1 1 [rlv (ci r)] := .inl ⟨false, true, 1, rfl, .inr rfl, .inr rfl, by simp, rfl⟩
    obtain ⟨vw, M3, hap, hLw, _, _, _⟩ := hLw0.append (x := .lst a2 b2 z2 (ap (disT r t)).length (rows (ap (disT r t)))) (k := (ap (disT r t)).length) (news := rows (ap (disT r t))) (bytes := 24) (by
      rcases hz2 with h | h
      · simp [contents, nbeq, h]
      · simp [contents, nbeq, h.1]) (by simp) (by omega) (by omega) (rows_scalar _)
    have hLw : Lst M3 vw 1 (r :: ap (disT r t)).length (rows (r :: ap (disT r t))) := by
      have e : (r :: ap (disT r t)).length = 1 + (ap (disT r t)).length := by simp; omega
      rw [e]; exact hLw
    obtain ⟨a3, b3, z3, ids3, hz3, hn3, _, hvw3⟩ := hLw.view (rows_pures _) (by omega)
    have hz3' : z3 = 1 ∧ a3 = false := by
      refine ⟨hz3.resolve_left (by simp), ?_⟩
      cases a3
      · rfl
      · exact absurd (hn3 rfl) (by simp)
    have hlr : lenL vr = some (disT r t).length := hL.lenL
    have hlw : lenL vw = some (r :: ap (disT r t)).length := hLw.lenL
    have hvw1 : ∀ (M : LMem), views M [rlv (ci r)] = some ([rlv (ci r)], []) := fun M => views_pures _ _ (by simp [LV.pures, LV.pure])
    have hsc : (rlv (ci r)).cells = some [rlv (ci r)] := rfl
    have r0 : (rows (r :: t))[0]? = some (rlv (ci r)) := rfl
    have hne0 : ¬ (((r :: t).length : Nat) : Int) = 0 := by simp; omega
    have hpos : 0 < (r :: t).length := by simp
    have hpu : LV.pures [.lst false ex 1 (r :: t).length (rows (r :: t))] = true := by simp [LV.pures, LV.pure]
    have hw1 : IntKind.i64.wrap (1 + (((disT r t).length : Nat) : Int)) = ((1 + (disT r t).length : Nat) : Int) := by rw [wrap_in (by omega)]; omega
    simp only [Int.natCast_one] at hex
    rw [ap_cons]
    by_cases c1 : 1 + (disT r t).length = (r :: t).length
    · rw [if_pos c1]
      have c1' : ((1 + (disT r t).length : Nat) : Int) = (((r :: t).length : Nat) : Int) := by omega
      refine ⟨a3, b3, z3, .inr hz3', fun m => ?_⟩
      refine call_Pv lp_ref04_apart rfl hpu (m1 := M3) (v := vw) (ids := ids3) ?_ (hvw3 97) m
      generalize rows (r :: t) = RR at *
      generalize (r :: t).length = L at *
      generalize rlv (ci r) = q at *
      generalize (1 + (disT r t).length : Nat) = D at *
      generalize (disT r t).length = D2 at *
      generalize rows (ap (disT r t)) = AR at *
      simp only [ref04_apart, ref04_apart.B, exF_seq, exF_region, exF_block, exF_cond, exF_ret, exF_skip, runL, wantL, stepL, evL, evC, LEnv.at, putL, loadFine, loadL, cellsAt, Trk.putNew, Trk.up, Trk.touch, Trk.gives, Trk.calm, opdsOf, Trk.fresh, LEnv.keep, LEnv.ofFrom, List.map_cons, List.map_nil, nbeq, nble, nblt, ofAV, ofAVs, bin_add, bin_eql, natL_zero, List.any_cons, List.any_nil, Bool.or_false, Bool.or_true, Bool.and_true, Bool.false_and, Bool.not_true, Bool.not_false, Nat.reduceEqDiff, decide_true, decide_false, cond_true, cond_false, List.filter_nil, List.filter_cons, Nat.reduceAdd, reduceCtorEq, List.length_nil, List.length_cons, Nat.mul_one, if_true, eq_self, retL, resultsL, resAllL, resOfL, List.append_nil, List.nil_append, Nat.reduceDiv, spliceL, List.take_zero, List.take_succ_cons, List.drop_zero, List.drop_succ_cons, List.drop_nil, List.take_nil, Nat.le_refl, fillL, lenL_lst, hne0, hpos, hex, hcall, r0, hvw1, freeze_nil, hsc, hap, hlr, hw1, c1']
    · rw [if_neg c1]
      have c1' : ¬ ((1 + (disT r t).length : Nat) : Int) = (((r :: t).length : Nat) : Int) := by omega
      obtain ⟨a4, b4, z4, hz4, hc4⟩ := apartR_c d t false (ex && decide (t.length + 1 = (r :: t).length)) 1 (by omega) (fun q hq => hl q (by simp [hq])) (by omega) (.inr ⟨rfl, rfl⟩)
      have hsl : sliceL 1 (.lst false ex 1 (r :: t).length (rows (r :: t))) (some (.int .i64 1)) none none = some (.lst false (ex && decide (t.length + 1 = (r :: t).length)) 1 t.length (rows t)) := by
        have h1 : Nat.ble 1 (t.length + 1) = true := by rw [nble]; simp
        simp [sliceL, optNatL, natL, nble, List.take_of_length_le]
      have hapt := (ap_sub _ t (Nat.le_refl _)).1.length_le
      by_cases c2 : (r :: ap (disT r t)).length < (ap t).length
      · rw [if_pos c2]
        have c2' : (((r :: ap (disT r t)).length : Nat) : Int) < (((ap t).length : Nat) : Int) := by omega
        refine ⟨a4, b4, z4, hz4, fun m => ?_⟩
        refine call_P lp_ref04_apart rfl hpu (m1 := M3) ?_ (by simp [LV.pure]) m
        generalize rows (r :: t) = RR at *
        generalize (r :: t).length = L at *
        generalize rlv (ci r) = q at *
        generalize (1 + (disT r t).length : Nat) = D at *
        generalize (disT r t).length = D2 at *
        generalize rows (ap (disT r t)) = AR at *
        generalize (r :: ap (disT r t)).length = WL at *
        generalize rows (ap t) = AT at *
        generalize (ap t).length = TL at *
        simp only [ref04_apart, ref04_apart.B, exF_seq, exF_region, exF_block, exF_cond, exF_ret, exF_skip, runL, wantL, stepL, evL, evC, LEnv.at, putL, loadFine, loadL, cellsAt, Trk.putNew, Trk.up, Trk.touch, Trk.gives, Trk.calm, opdsOf, Trk.fresh, LEnv.keep, LEnv.ofFrom, List.map_cons, List.map_nil, nbeq, nble, nblt, ofAV, ofAVs, bin_add, bin_eql, bin_gtr, natL_zero, List.any_cons, List.any_nil, Bool.or_false, Bool.or_true, Bool.and_true, Bool.false_and, Bool.not_true, Bool.not_false, Nat.reduceEqDiff, decide_true, decide_false, cond_true, cond_false, List.filter_nil, List.filter_cons, Nat.reduceAdd, reduceCtorEq, List.length_nil, List.length_cons, Nat.mul_one, if_true, eq_self, retL, resultsL, resAllL, resOfL, List.append_nil, List.nil_append, Nat.reduceDiv, spliceL, List.take_zero, List.take_succ_cons, List.drop_zero, List.drop_succ_cons, List.drop_nil, List.take_nil, Nat.le_refl, fillL, lenL_lst, hne0, hpos, hex, hcall, r0, hvw1, freeze_nil, hsc, hap, hlr, hw1, c1', Option.map_none, Option.map_some, hsl, hc4, hlw, c2']
      · rw [if_neg c2]
        have c2' : ¬ (((r :: ap (disT r t)).length : Nat) : Int) < (((ap t).length : Nat) : Int) := by omega
        refine ⟨a3, b3, z3, .inr hz3', fun m => ?_⟩
        refine call_Pv lp_ref04_apart rfl hpu (m1 := M3) (v := vw) (ids := ids3) ?_ (hvw3 97) m
        generalize rows (r :: t) = RR at *
        generalize (r :: t).length = L at *
        generalize rlv (ci r) = q at *
        generalize (1 + (disT r t).length : Nat) = D at *
        generalize (disT r t).length = D2 at *
        generalize rows (ap (disT r t)) = AR at *
        generalize (r :: ap (disT r t)).length = WL at *
        generalize rows (ap t) = AT at *
        generalize (ap t).length = TL at *
        simp only [ref04_apart, ref04_apart.B, exF_seq, exF_region, exF_block, exF_cond, exF_ret, exF_skip, runL, wantL, stepL, evL, evC, LEnv.at, putL, loadFine, loadL, cellsAt, Trk.putNew, Trk.up, Trk.touch, Trk.gives, Trk.calm, opdsOf, Trk.fresh, LEnv.keep, LEnv.ofFrom, List.map_cons, List.map_nil, nbeq, nble, nblt, ofAV, ofAVs, bin_add, bin_eql, bin_gtr, natL_zero, List.any_cons, List.any_nil, Bool.or_false, Bool.or_true, Bool.and_true, Bool.false_and, Bool.not_true, Bool.not_false, Nat.reduceEqDiff, decide_true, decide_false, cond_true, cond_false, List.filter_nil, List.filter_cons, Nat.reduceAdd, reduceCtorEq, List.length_nil, List.length_cons, Nat.mul_one, if_true, eq_self, retL, resultsL, resAllL, resOfL, List.append_nil, List.nil_append, Nat.reduceDiv, spliceL, List.take_zero, List.take_succ_cons, List.drop_zero, List.drop_succ_cons, List.drop_nil, List.take_nil, Nat.le_refl, fillL, lenL_lst, hne0, hpos, hex, hcall, r0, hvw1, freeze_nil, hsc, hap, hlr, hw1, c1', Option.map_none, Option.map_some, hsl, hc4, hlw, c2']
theorem allR_c2 {n : Nat} {P : List (Nat × Nat)} (G : Good n P) (nl ex : Bool) (sz : Nat) : ∃ a b z, (allR P = [] ∨ z = 1) ∧ (allR P ≠ [] → a = false) ∧ ∀ m, clF LP n_ref04_all [FN nl ex sz P] m = some (.P, .lst a b z (allR P).length (rows (allR P)), m) := by
  obtain ⟨v', M', he, hL⟩ := allR_loop G nl ex sz P.length 0 [] (.lst true true 0 0 []) [] (by omega) (by simp) (Lst.nil [] 1)
  rw [List.nil_append, ← List.range_eq_range'] at hL
  have hL : Lst M' v' 1 (allR P).length (rows (allR P)) := hL
  obtain ⟨a, b, z, ids, hz, hn, _, hvw⟩ := hL.view (rows_pures _) (by omega)
  refine ⟨a, b, z, ?_, fun h => ?_, fun m => ?_⟩
  · rcases hz with h | h
    · exact .inl (List.length_eq_zero_iff.1 h)
    · exact .inr h
  · cases a
    · rfl
    · exact absurd (List.length_eq_zero_iff.1 (hn rfl)) h
  · refine call_Pv lp_ref04_all rfl (by simp [LV.pures, LV.pure]) (m1 := M') (v := v') (ids := ids) ?_ (hvw 97) m
    simp only [Int.natCast_zero] at he
    simp only [FN_eq] at he ⊢
    simp only [ref04_all, ref04_all.B, exF_seq, exF_region, exF_block, exF_ret, runL, wantL, stepL, evL, evC, LEnv.at, putL, loadFine, LEnv.keep, LEnv.ofFrom, List.map_cons, List.map_nil, nbeq, Nat.reduceEqDiff, decide_true, decide_false, cond_true, cond_false, reduceCtorEq, eq_self, retL, resultsL, resAllL, resOfL, he]
theorem ApartR_c {n : Nat} {P : List (Nat × Nat)} (G : Good n P) (nl ex : Bool) (sz : Nat) : ∃ a b z, ∀ m, clF LP n_ref04_Apart [.int .i64 (n : Int), FN nl ex sz P] m = some (.P, .tup [.lst a b z (ap (allR P)).length (rows (ap (allR P))), .int .i64 0], m) := by
  have hc := fun m => checkR_c nl ex sz (n : Int) (P.map castP) (by have := G.le12; simp; omega) m
  rw [chkF_of G] at hc
  obtain ⟨a, b, z, hz, hnz, hal⟩ := allR_c2 G nl ex sz
  have hlen := allR_len G
  obtain ⟨a2, b2, z2, _, hap⟩ := apartR_c _ (allR P) a b z (Nat.le_refl _) (fun r hr => ((allR_ok G).2 r hr).2) (by omega) (by
    rcases hz with h | h
    · exact .inl h
    · by_cases c : allR P = []
      · exact .inl c
      · exact .inr ⟨h, hnz c⟩)
  refine ⟨a2, b2, z2, fun m => ?_⟩
  refine call_P lp_ref04_Apart rfl (by simp [LV.pures, LV.pure]) (m1 := []) ?_ (by simp [LV.pure, LV.pures]) m
  simp only [FN_eq] at hc hal ⊢
  simp only [ref04_Apart, ref04_Apart.B, exF_seq, exF_region, exF_cond, exF_ret, exF_skip, runL, wantL, stepL, evL, evC, LEnv.at, putL, loadFine, LEnv.keep, LEnv.ofFrom, List.map_cons, List.map_nil, nbeq, ofAVs, bin_neq, Nat.reduceEqDiff, decide_true, decide_false, cond_true, cond_false, Nat.reduceAdd, reduceCtorEq, eq_self, retL, resultsL, resAllL, resOfL, List.append_nil, List.nil_append, not_true_eq_false, ne_eq, hc, hal, hap]
theorem ApartR_e (N : Int) (l : List (Int × Int)) (hl : l.length < 1000000) (h : chkF N l ≠ 0) (nl ex : Bool) (sz : Nat) (m : LMem) :
    clF LP n_ref04_Apart [.int .i64 N, FL nl ex sz l] m = some (.P, .tup [.lst true true 0 0 [], .int .i64 (chkF N l)], m) := by
  have hc := fun m => checkR_c nl ex sz N l hl m
  refine call_P lp_ref04_Apart rfl (by simp [LV.pures, LV.pure]) (m1 := []) ?_ rfl m
  simp only [ref04_Apart, ref04_Apart.B, exF_seq, exF_region, exF_cond, exF_ret, runL, wantL, stepL, evL, evC, LEnv.at, putL, loadFine, LEnv.keep, LEnv.ofFrom, List.map_cons, List.map_nil, nbeq, ofAVs, bin_neq, Nat.reduceEqDiff, decide_true, decide_false, cond_true, cond_false, Nat.reduceAdd, reduceCtorEq, eq_self, retL, resultsL, resAllL, resOfL, List.append_nil, List.nil_append, not_false_eq_true, ne_eq, hc, h]
theorem ap_small {n : Nat} {P : List (Nat × Nat)} (G : Good n P) : (ap (allR P)).length ≤ 35831808 ∧ ∀ r ∈ ap (allR P), r.length < 1000 := by
  have h := (ap_sub _ (allR P) (Nat.le_refl _)).1
  have := h.length_le
  have := allR_len G
  exact ⟨by omega, fun r hr => ((allR_ok G).2 r (h.subset hr)).2⟩
end Go.Am.Ring

/-
  What functions of chapter 04 compute, 34: the law RingAparts.
-/
set_option linter.unusedVariables false
set_option linter.unusedSimpArgs false
set_option maxRecDepth 10000
namespace Go.Am.Ring
open Go.Am.G

theorem lists_loop' (nl ex nl' ex' : Bool) (sz sz' : Nat) (a : List (List Int)) (hs : a.length < 1000000000) (ha : ∀ r ∈ a, r.length < 1000000) (n : Nat) : ∀ k, k + n = a.length →
    exF LP law04_lists.L0 [(0, LL nl ex sz a), (1, LL nl' ex' sz' a), (5, .int .i64 (k : Int))] [] = some (.exit 0, [], []) := by
  induction n with
  | zero =>
    intro k hk
    rw [law04_lists.L0_eq]
    simp only [law04_lists.B0, exF_seq, exF_region, exF_cond, exF_exit, runL, wantL, stepL, evL, LEnv.at, putL, loadFine, LEnv.keep, List.map_cons, List.map_nil, nbeq, lenL, bin_lss, Nat.reduceEqDiff, decide_true, decide_false, cond_true, cond_false, reduceCtorEq, eq_self, show ¬ ((k : Int) < (a.length : Int)) by omega]
  | succ n ih =>
    intro k hk
    have h2 : k < a.length := by omega
    have ih := ih (k + 1) (by omega)
    have hr := ha _ (List.getElem_mem h2)
    have hsm : ∀ m, clF LP n_law04_same [rlv a[k], rlv a[k]] m = some (.P, .bool true, m) := fun m => by
      have := same_c false false false false 1 1 a[k] a[k] hr hr m
      simp only [decide_true] at this
      exact this
    have r0 := row_at a k h2
    rw [law04_lists.L0_eq]
    simp only [LL] at ih ⊢
    generalize a.map rlv = RR at *
    generalize rlv a[k] = q at *
    simp only [law04_lists.B0, law04_lists.B0.R0, exF_seq, exF_region, exF_block, exF_cond, exF_skip, runL, wantL, stepL, evL, evC, LEnv.at, putL, loadFine, loadL, cellsAt, Trk.putNew, Trk.up, Trk.touch, Trk.gives, Trk.calm, opdsOf, Trk.fresh, LEnv.keep, List.map_cons, List.map_nil, nbeq, nble, nblt, ofAVs, lenL, bin_add, bin_lss, natL_nat, List.any_cons, List.any_nil, Bool.or_false, Bool.or_true, Bool.and_true, Bool.false_and, Bool.not_true, Bool.not_false, Nat.reduceEqDiff, decide_true, decide_false, cond_true, cond_false, List.filter_nil, Nat.reduceAdd, reduceCtorEq, List.length_nil, Nat.mul_one, eq_self, List.append_nil, List.nil_append, unL, Nat.le_refl, show ((k : Int) < (a.length : Int)) by omega, h2, r0, hsm, wrap_succ (show k + 1 < 9223372036854775808 by omega), ih]
theorem lists_self (nl ex nl' ex' : Bool) (sz sz' : Nat) (a : List (List Int)) (hs : a.length < 1000000000) (ha : ∀ r ∈ a, r.length < 1000000) (m : LMem) : clF LP n_law04_lists [LL nl ex sz a, LL nl' ex' sz' a] m = some (.P, .bool true, m) := by
  have h := lists_loop' nl ex nl' ex' sz sz' a hs ha a.length 0 (by omega)
  simp only [Int.natCast_zero] at h
  refine call_P lp_law04_lists rfl (by simp [LV.pures, LV.pure]) (m1 := []) ?_ rfl m
  simp only [law04_lists, law04_lists.B, exF_seq, exF_region, exF_block, exF_cond, exF_ret, exF_skip, runL, wantL, stepL, evL, evC, LEnv.at, putL, loadFine, LEnv.keep, LEnv.ofFrom, List.map_cons, List.map_nil, nbeq, lenL, bin_neq, Nat.reduceEqDiff, decide_true, decide_false, cond_true, cond_false, Nat.reduceAdd, reduceCtorEq, eq_self, retL, resultsL, resAllL, resOfL, not_true_eq_false, ne_eq, h]
theorem apart_both (N : Int) (l : List (Int × Int)) (hl : l.length < 1000000) (nl : Bool) : ∃ a b z a' b' z' rs e, rs.length < 1000000000 ∧ (∀ r ∈ rs, r.length < 1000000) ∧ (∀ m, clF LP n_ring_Apart [.int .i64 N, FL nl false 2 l] m = some (.P, .tup [LL a b z rs, .int .i64 e], m)) ∧ (∀ m, clF LP n_ref04_Apart [.int .i64 N, FL nl false 2 l] m = some (.P, .tup [LL a' b' z' rs, .int .i64 e], m)) := by
  by_cases h : chkF N l = 0
  · obtain ⟨n, P, rfl, rfl, G⟩ := good_of h
    obtain ⟨a, b, z, h1⟩ := apart_c G nl false 2
    obtain ⟨a', b', z', h2⟩ := ApartR_c G nl false 2
    obtain ⟨k1, k2⟩ := ap_small G
    have e : ∀ a b z, (LV.lst a b z (ap (allR P)).length (rows (ap (allR P)))) = LL a b z ((ap (allR P)).map fun o => ci o) := fun a b z => by simp [LL, rows]
    refine ⟨a, b, z, a', b', z', (ap (allR P)).map fun o => ci o, 0, by rw [List.length_map]; omega, fun r hr => ?_, fun m => by rw [h1 m, e], fun m => by rw [h2 m, e]⟩
    obtain ⟨o, ho, rfl⟩ := List.mem_map.1 hr
    have := k2 o ho
    rw [ci_len]; omega
  · exact ⟨true, true, 0, true, true, 0, [], _, by simp, by simp, fun m => apart_e N l hl h nl false 2 m, fun m => ApartR_e N l hl h nl false 2 m⟩
theorem aparts_law (N : Int) (nl : Bool) (l : List (Int × Int)) : clF LP n_law04_RingAparts [.int .i64 N, FL nl false 2 l] [] = some (.P, .bool true, []) := by
  refine call_P lp_law04_RingAparts rfl (by simp [LV.pures, LV.pure]) (m1 := []) ?_ rfl []
  by_cases h1 : 40 < l.length
  · have h1' : (40 : Int) < (l.length : Int) := by omega
    simp only [law04_RingAparts, law04_RingAparts.B, exF_seq, exF_region, exF_cond, exF_ret, runL, wantL, stepL, evL, evC, LEnv.at, putL, loadFine, LEnv.keep, LEnv.ofFrom, List.map_cons, List.map_nil, nbeq, ofAVs, lenL, bin_gtr, Nat.reduceEqDiff, decide_true, decide_false, cond_true, cond_false, Nat.reduceAdd, reduceCtorEq, eq_self, retL, resultsL, resAllL, resOfL, List.append_nil, h1', works_c]
  · have h1' : ¬ (40 : Int) < (l.length : Int) := by omega
    obtain ⟨a, b, z, a', b', z', rs, e, hl1, hl2, r1, r2⟩ := apart_both N l (by omega) nl
    have hls := fun m => lists_self a b a' b' z z' rs hl1 hl2 m
    generalize LL a b z rs = Z1 at *
    generalize LL a' b' z' rs = Z2 at *
    simp only [law04_RingAparts, law04_RingAparts.B, law04_RingAparts.B.R0, law04_RingAparts.B.R1, law04_RingAparts.B.R2, beqT, exF_seq, exF_region, exF_cond, exF_ret, exF_skip, runL, wantL, stepL, evL, evC, LEnv.at, putL, loadFine, LEnv.keep, LEnv.ofFrom, List.map_cons, List.map_nil, nbeq, ofAVs, lenL, bin_eql, bin_gtr, Nat.reduceEqDiff, decide_true, decide_false, cond_true, cond_false, Nat.reduceAdd, reduceCtorEq, eq_self, retL, resultsL, resAllL, resOfL, List.append_nil, List.nil_append, List.getElem?_cons_zero, List.getElem?_cons_succ, h1', r1, r2, hls, works_c]
theorem aparts_in (N : Int) (nl : Bool) (l : List (Int × Int)) (_ : nl = true → l = []) :
    clF LP n_law04_RingAparts [.int .i64 N, .lst nl false 2 l.length ((flatP l).map (LV.int .i64))] [] = some (.P, .bool true, []) := by
  rw [← pcI_flat]
  exact aparts_law N nl l
end Go.Am.Ring

/-
  THE JOIN, 3: arguments read behind the call as before it.
-/
set_option linter.unusedVariables false
namespace Go.Am
variable [Glo]
open Go.RowKit
omit [Glo] in
theorem trodAll_below {H : Type} {enc : TypeId × Value → H} {P : Program} {W W' : World} (hl : laidOutB P = true) (hb : Below W.heap.size W W') : ∀ {ts : List TypeId} {vs : List Value} {ds : List (DataW H)} {ps : List MemPlace}, (ts.all fun t => P.readableRec t && decide (t < P.types.size)) = true →
    DataW.TrodAll enc P W 0 (fun _ => true) true ts vs ds ps → (∀ x ∈ ps, x.block < W.heap.size) → DataW.TrodAll enc P W' 0 (fun b => decide (b < W.heap.size)) true ts vs ds ps
  | [], [], [], _, _, h, _ => h
  | t :: ts, v :: vs, d :: ds, ps, hr, ⟨p, q, h1, h2, e⟩, hlt => by
    simp only [List.all_cons, Bool.and_eq_true, decide_eq_true_eq] at hr
    subst e
    exact ⟨p, q, Below.trod hl hr.1.1 hr.1.2 h1 hb (fun x hx => hlt x (List.mem_append_left _ hx)), trodAll_below hl hb hr.2 h2 (fun x hx => hlt x (List.mem_append_right _ hx)), rfl⟩
end Go.Am

/-
  THE JOIN, 4: structs of bytes that came in.
-/
set_option linter.unusedVariables false
namespace Go.Am
variable [Glo]
open Go.RowKit

section
variable {H : Type} {enc : TypeId × Value → H} {P : Program} {w : World} {base : Nat} {sp : Nat → Bool} {held : Bool}
end
end Go.Am


