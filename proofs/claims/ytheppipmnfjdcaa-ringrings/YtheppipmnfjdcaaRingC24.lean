/-
  What functions of chapter 04 compute, 24: the program's rings: the walk, and all of it.
-/
import Derived.Test.YtheppipmnfjdcaaRingC22
set_option linter.unusedVariables false
set_option linter.unusedSimpArgs false
set_option maxRecDepth 10000
namespace Go.Am.Ring
open Go.Am.G

theorem lenL_lst (nl ex : Bool) (sz n : Nat) (cs : List LV) : lenL (.lst nl ex sz n cs) = some n := rfl
theorem lenL_sl (i o n cap g sz L : Nat) : lenL (.sl i o n cap g sz L) = some n := rfl
theorem walk_loop {σ : Type} {N : Nat} (X : RVis σ N) {n : Nat} {P : List (Nat × Nat)} (G : Good n P) {fv : LV} {w : Nat} {β : Nat → Nat} {keys : List Nat} {u : Nat} {b : List Nat} (hb : b ≠ []) (hb6 : b.length ≤ 6) (hbl : ∀ k ∈ b, k < P.length) (y : Nat) (hy : y < 6) (bf : Nat) (hbf : frm P y ≠ [] → N ≤ bf ∧ bf ≤ w)
    (hr : ∀ i ∈ frm P y, b.headD 0 < i → WalkOk X P fv w β keys u (b ++ [i])) (j : Nat) : ∀ (k : Nat) (s : σ) (O : List Nat) (m : LMem) (rv : LV), k + j = (frm P y).length → WB X P fv w β keys m → (frm P y ≠ [] → m[bf]? = some ⟨ints (ci (frm P y)), true⟩) → X.I s O m → Cl m → (∀ i ∈ O, i < N ∨ w < i) → RVal w O m rv b →
      X.size s + ((((frm P y).drop k).filter fun i => decide (b.headD 0 < i)).flatMap fun i => ringsU P u (b ++ [i])).length ≤ 100000000 →
    ∃ m' O', exF LP ring_rings_1.L0 [(0, rv), (1, .int .i64 ((metB P b : Nat) : Int)), (5, .ptr w 0 1), (9, .int .i64 (y : Int)), (42, GV bf (ci (frm P y))), (43, .int .i64 (((frm P y).length : Nat) : Int)), (44, .int .i64 (k : Int))] m = some (.exit 0, [], m') ∧
      X.I (((((frm P y).drop k).filter fun i => decide (b.headD 0 < i)).flatMap fun i => ringsU P u (b ++ [i])).foldl X.vis s) O' m' ∧ Exn m m' O ∧ ∀ i ∈ O', i ∈ O ∨ m.length ≤ i := by
  have h12 := G.le12
  have hfl : (frm P y).length ≤ P.length := frmK_len P P.length y
  induction j with
  | zero =>
    intro k s O m rv hk _ _ hI _ _ _ _
    refine ⟨m, O, ?_, by rw [List.drop_eq_nil_of_le (by omega)]; exact hI, Exn.rfl' m O, fun i hi => .inl hi⟩
    rw [ring_rings_1.L0_eq]
    simp only [ring_rings_1.B0, exF_seq, exF_region, exF_cond, exF_exit, runL, wantL, stepL, evL, LEnv.at, putL, loadFine, LEnv.keep, List.map_cons, List.map_nil, nbeq, bin_lss, Nat.reduceEqDiff, decide_true, decide_false, cond_true, cond_false, reduceCtorEq, eq_self, show ¬ ((k : Int) < (((frm P y).length : Nat) : Int)) by omega]
  | succ j ih =>
    intro k s O m rv hk hW hf hI hC hO hV hs
    have h2 : k < (frm P y).length := by omega
    have hkk : (k : Int) < (((frm P y).length : Nat) : Int) := by omega
    have hne : frm P y ≠ [] := fun e => by rw [e] at h2; simp at h2
    have hcn : ci (frm P y) ≠ [] := fun h => hne (ci_nil.1 h)
    have hwk := wrap_succ (show k + 1 < 9223372036854775808 by omega)
    have hf1 := hf hne
    have hbf1 := hbf hne
    have hwl := get_lt hW.fw
    have hbfl : ¬ m.length ≤ bf := by omega
    have hwn : ¬ m.length ≤ w := by omega
    have hcl := ci_len (frm P y)
    have hpos : 0 < b.length := List.length_pos_iff.2 hb
    have hmem : (frm P y)[k] ∈ frm P y := List.getElem_mem h2
    have hmm := frmK_mem.1 hmem
    have hat : (ints (ci (frm P y)))[k]? = some (.int .i64 (((frm P y)[k] : Nat) : Int)) := by
      rw [List.getElem?_map, List.getElem?_map, List.getElem?_eq_getElem h2]; rfl
    have b0 : (ints (ci b))[0]? = some (.int .i64 ((b.headD 0 : Nat) : Int)) := by
      rw [List.getElem?_map, List.getElem?_map, List.getElem?_eq_getElem hpos, head_at b hpos]; rfl
    have hlen2 : (ints (ci (frm P y))).length = (frm P y).length := by simp
    have hlenb : (ints (ci b)).length = b.length := by simp
    have hfw := hW.fw
    rw [List.drop_eq_getElem_cons h2, List.filter_cons] at hs ⊢
    generalize hi : (frm P y)[k] = i at *
    have hGV : GV bf (ci (frm P y)) = .sl bf 0 (frm P y).length (frm P y).length 1 1 (frm P y).length := by simp only [GV, if_neg hcn, hcl]
    rw [hGV] at ih ⊢
    have hshl := sshl (show y < 32 by omega)
    have hml : metB P b < 64 := metB_lt b 0 (fun k hk => by have := (st_lt G (hbl k hk)).1; have := G.le6; omega) (by omega)
    have hpw : 2 ^ y < 2 ^ 6 := Nat.pow_lt_pow_right (by omega) hy
    have hor := sor (show metB P b < 4294967296 by omega) (show 2 ^ y < 4294967296 by omega)
    have hme : metB P b ||| 2 ^ y = metB P (b ++ [i]) := by rw [metB_snoc, hmm.2]
    rw [hme] at hor
    generalize ints (ci (frm P y)) = FC at *
    by_cases c : b.headD 0 < i
    · rw [if_pos (by simpa using c), List.flatMap_cons] at hs ⊢
      rw [List.length_append] at hs
      have c' : ((b.headD 0 : Nat) : Int) < (i : Int) := by omega
      obtain ⟨m1, O1, haw, ⟨q, hap⟩, hbr, hI1, hE1, hO1, hV1⟩ := walk_lent X hb hb6 (hr i hmem c) hW hI hC hO hV (by omega)
      have hszl := X.hszl (ringsU P u (b ++ [i])) s
      have hbt : ∀ i ∈ O1, i < N ∨ w < i := fun i hi => by
        rcases hO1 i hi with h | h
        · exact hO i h
        · exact .inr (by omega)
      have hkeep : ∀ i, N ≤ i → i ≤ w → m1[i]? = m[i]? := fun i h1 h2 => hE1.keep i (by omega) fun h => by
        rcases hO i h with h | h <;> omega
      obtain ⟨m', O', hex, hI', hE', hO'⟩ := ih (k + 1) _ O1 m1 rv (by omega) (hW.mono hkeep) (fun h => by rw [hkeep bf hbf1.1 hbf1.2]; exact hf1) hI1 (hE1.cl hC) hbt hV1 (by omega)
      refine ⟨m', O', ?_, by rw [List.foldl_append]; exact hI', hE1.trans hE' hO1, fun i hi => ?_⟩
      · rw [ring_rings_1.L0_eq]
        rcases hV with ⟨rfl, h1⟩ | ⟨br, rfl, hbr', hwb, hbO, hN⟩
        · simp only [ring_rings_1.B0, beqT, exF_seq, exF_region, exF_block, exF_cond, exF_skip, runL, wantL, stepL, evL, evC, LEnv.at, putL, loadFine, loadL, cellsAt, Trk.putNew, Trk.up, Trk.touch, Trk.gives, Trk.calm, Trk.hit, opdsOf, Trk.fresh, LEnv.keep, List.map_cons, List.map_nil, nbeq, nble, nblt, ofAV, ofAVs, bin_add, bin_lss, bin_gtr, natL_nat, natL_zero, List.any_cons, List.any_nil, Bool.or_false, Bool.or_true, Bool.and_true, Bool.false_and, Bool.not_true, Bool.not_false, Nat.reduceEqDiff, decide_true, decide_false, cond_true, cond_false, List.filter_nil, List.filter_cons, Nat.reduceAdd, Nat.reduceLeDiff, reduceCtorEq, List.length_nil, List.length_cons, Nat.mul_one, if_true, eq_self, List.append_nil, List.nil_append, unL, views_pures, LV.pures, LV.pure, freeze, Nat.reduceDiv, LV.cells, List.getElem?_cons_zero, spliceL, List.take_zero, List.take_succ_cons, List.drop_zero, List.drop_succ_cons, List.drop_nil, List.take_nil, Nat.le_refl, Nat.lt_add_one, fillL, hkk, h2, hbfl, hf1, hlen2, hat, Nat.zero_add, b0, c', haw, hap, hwn, hfw, hshl, hor, hbr, hwk, hex]
        · have hbrl := get_lt hbr'
          simp only [ring_rings_1.B0, beqT, exF_seq, exF_region, exF_block, exF_cond, exF_skip, runL, wantL, stepL, evL, evC, LEnv.at, putL, loadFine, loadL, cellsAt, Trk.putNew, Trk.up, Trk.touch, Trk.gives, Trk.calm, Trk.hit, opdsOf, Trk.fresh, LEnv.keep, List.map_cons, List.map_nil, nbeq, nble, nblt, ofAV, ofAVs, bin_add, bin_lss, bin_gtr, natL_nat, natL_zero, List.any_cons, List.any_nil, Bool.or_false, Bool.or_true, Bool.and_true, Bool.false_and, Bool.not_true, Bool.not_false, Nat.reduceEqDiff, decide_true, decide_false, cond_true, cond_false, List.filter_nil, List.filter_cons, Nat.reduceAdd, Nat.reduceLeDiff, reduceCtorEq, List.length_nil, List.length_cons, Nat.mul_one, if_true, eq_self, List.append_nil, List.nil_append, unL, views_pures, LV.pures, LV.pure, freeze, Nat.reduceDiv, LV.cells, List.getElem?_cons_zero, spliceL, List.take_zero, List.take_succ_cons, List.drop_zero, List.drop_succ_cons, List.drop_nil, List.take_nil, Nat.le_refl, fillL, hkk, h2, hbfl, hf1, hlen2, hat, Nat.zero_add, b0, c', haw, hap, hwn, hfw, hshl, hor, hbr, hwk, hex, hpos, hbr', hlenb, show ¬ m.length ≤ br by omega]
      · rcases hO' i hi with h | h
        · exact hO1 i h
        · exact .inr (by have := hE1.len; omega)
    · rw [if_neg (by simpa using c)] at hs ⊢
      have c' : ¬ ((b.headD 0 : Nat) : Int) < (i : Int) := by omega
      obtain ⟨m', O', hex, hI', hE', hO'⟩ := ih (k + 1) s O m rv (by omega) hW hf hI hC hO hV hs
      refine ⟨m', O', ?_, hI', hE', hO'⟩
      rw [ring_rings_1.L0_eq]
      rcases hV with ⟨rfl, h1⟩ | ⟨br, rfl, hbr', hwb, hbO, hN⟩
      · simp only [ring_rings_1.B0, beqT, exF_seq, exF_region, exF_block, exF_cond, exF_skip, runL, wantL, stepL, evL, evC, LEnv.at, putL, loadFine, loadL, cellsAt, Trk.putNew, Trk.up, Trk.touch, Trk.gives, Trk.calm, Trk.hit, opdsOf, Trk.fresh, LEnv.keep, List.map_cons, List.map_nil, nbeq, nble, nblt, bin_add, bin_lss, bin_gtr, natL_nat, natL_zero, List.any_cons, List.any_nil, Bool.or_false, Bool.or_true, Bool.and_true, Bool.false_and, Bool.not_true, Bool.not_false, Nat.reduceEqDiff, decide_true, decide_false, cond_true, cond_false, List.filter_nil, Nat.reduceAdd, Nat.reduceLeDiff, reduceCtorEq, Nat.mul_one, eq_self, List.drop_zero, Nat.le_refl, Nat.lt_add_one, hkk, h2, hbfl, hf1, hlen2, hat, Nat.zero_add, b0, c', hwk, hex]
      · have hbrl := get_lt hbr'
        simp only [ring_rings_1.B0, beqT, exF_seq, exF_region, exF_block, exF_cond, exF_skip, runL, wantL, stepL, evL, evC, LEnv.at, putL, loadFine, loadL, cellsAt, Trk.putNew, Trk.up, Trk.touch, Trk.gives, Trk.calm, Trk.hit, opdsOf, Trk.fresh, LEnv.keep, List.map_cons, List.map_nil, nbeq, nble, nblt, bin_add, bin_lss, bin_gtr, natL_nat, natL_zero, List.any_cons, List.any_nil, Bool.or_false, Bool.or_true, Bool.and_true, Bool.false_and, Bool.not_true, Bool.not_false, Nat.reduceEqDiff, decide_true, decide_false, cond_true, cond_false, List.filter_nil, Nat.reduceAdd, Nat.reduceLeDiff, reduceCtorEq, Nat.mul_one, eq_self, List.drop_zero, Nat.le_refl, hkk, h2, hbfl, hf1, hlen2, hat, Nat.zero_add, b0, c', hwk, hex, hpos, hbr', hlenb, show ¬ m.length ≤ br by omega]
theorem walk_c {σ : Type} {N : Nat} (X : RVis σ N) {n : Nat} {P : List (Nat × Nat)} (G : Good n P) {nl ex : Bool} {sz w : Nat} {β : Nat → Nat} {keys : List Nat} : ∀ (u : Nat) (b : List Nat), Beg n P b → b.length + u = 7 → WalkOk X P (FN nl ex sz P) w β keys u b
  | 0, b, B, hu => by have := B.len G; omega
  | u + 1, b, B, hu => by
    intro s O m rv hW hI hC hO hV hs
    have hb := B.ne
    have hb6 := B.len G
    have h6 := G.le6
    have hpos : 0 < b.length := List.length_pos_iff.2 hb
    have hcb : ci b ≠ [] := fun h => hb (ci_nil.1 h)
    have hhd : b.headD 0 < P.length := B.lt _ (by rw [← head_at b hpos]; exact List.getElem_mem _)
    have hld : b.getLastD 0 < P.length := B.lt _ (by rw [← last_el b (by omega)]; exact List.getElem_mem _)
    have b0 : (ints (ci b))[0]? = some (.int .i64 ((b.headD 0 : Nat) : Int)) := by
      rw [List.getElem?_map, List.getElem?_map, List.getElem?_eq_getElem hpos, head_at b hpos]; rfl
    have hlt : b.length - 1 < b.length := by omega
    have bl : (ints (ci b))[b.length - 1]? = some (.int .i64 ((b.getLastD 0 : Nat) : Int)) := by
      rw [List.getElem?_map, List.getElem?_map, List.getElem?_eq_getElem hlt, last_el b hlt]; rfl
    have s0 := pcS P _ hhd
    have sl := pcE P _ hld
    have hw1 : IntKind.i64.wrap (((b.length : Nat) : Int) - 1) = ((b.length - 1 : Nat) : Int) := by rw [wrap_in (by omega)]; omega
    have hw11 : IntKind.i64.wrap (((1 : Nat) : Int) - 1) = 0 := by decide
    have hlenb : (ints (ci b)).length = b.length := by simp
    have hcl := ci_len b
    have hwl := get_lt hW.fw
    have hw3 := hW.hw
    have n0 : ¬ m.length ≤ N := by omega
    have n1 : ¬ m.length ≤ N + 1 := by omega
    have n3 : ¬ m.length ≤ N + 3 := by omega
    have f0 := hW.J.f0
    have f1 := hW.J.f1
    have f3 := hW.J.f3
    have hen := (st_lt G hld).2.1
    have hml : metB P b < 64 := metB_lt b 0 (fun k hk => by have := (st_lt G (B.lt k hk)).1; omega) (by omega)
    have hshr := sshr (a := metB P b) (show en P (b.getLastD 0) < 64 by omega)
    have hdv : metB P b / 2 ^ en P (b.getLastD 0) < 4294967296 := Nat.lt_of_le_of_lt (Nat.div_le_self _ _) (by omega)
    have hand := sand1 hdv
    have hbit := bit_dec (metB P b) (en P (b.getLastD 0))
    simp only [FN_eq] at f0
    by_cases hc : en P (b.getLastD 0) = st P (b.headD 0)
    · -- a ring
      have hc' : ((en P (b.getLastD 0) : Nat) : Int) = ((st P (b.headD 0) : Nat) : Int) := by omega
      have hU : ringsU P (u + 1) b = [b] := by rw [ringsU, if_pos hc]
      rw [hU] at hs ⊢
      rcases hV with ⟨rfl, h1⟩ | ⟨br, rfl, hbr, hwb, hbO, hN⟩
      · exfalso
        match b, h1 with
        | [k], _ => exact (st_lt G (B.lt k (by simp))).2.2 hc.symm
      · have hbrl := get_lt hbr
        have hnr : ¬ m.length ≤ br := by omega
        have hv := views_one 92 m (.sl br 0 b.length b.length 1 1 b.length) (IL false false 1 (ci b)) [br] (fun k => by
          have := view_sl k m br 0 b.length b.length 1 (ci b) true hbr (by simp) (by omega) b.length (Nat.le_refl _)
          rw [List.drop_zero, List.take_of_length_le (by simp)] at this
          exact this) rfl
        have hclo := cloneI_m false (ci b) (by rw [hcl]; omega) hcb hv
        simp only [hcl] at hclo
        obtain ⟨m', O', hvis, hI', hE', hO'⟩ := X.hvis s O m b hI hb hb6 (by simp at hs; omega) (by omega) hC
        refine ⟨trim m.length [.bool true] m', O', ?_, X.trim hI' _ (by omega) _, hE'.trim _, hO'⟩
        refine call_W lp_ring_rings_1 rfl ?_
        have f1' : (m ++ [⟨ints (ci b), true⟩])[N + 1]? = some ⟨[.func X.f X.first X.cap], true⟩ := by rw [List.getElem?_append_left (by omega)]; exact f1
        simp only [List.cons_append, List.nil_append] at hvis
        simp only [ring_rings_1, ring_rings_1.B, exF_seq, exF_region, exF_cond, exF_ret, runL, wantL, stepL, evL, evC, LEnv.at, putL, loadFine, loadL, cellsAt, Trk.putNew, Trk.up, Trk.touch, Trk.gives, Trk.calm, Trk.hit, opdsOf, Trk.fresh, LEnv.keep, LEnv.ofFrom, List.map_cons, List.map_nil, nbeq, nble, nblt, ofAVs, lenL, bin_sub, bin_eql, natL_nat, natL_zero, natL_one, List.any_cons, List.any_nil, Bool.or_false, Bool.or_true, Bool.and_true, Bool.false_and, Bool.not_true, Bool.not_false, Nat.reduceEqDiff, decide_true, decide_false, cond_true, cond_false, List.filter_nil, Nat.reduceAdd, reduceCtorEq, List.length_nil, List.length_cons, Nat.mul_one, eq_self, retL, resultsL, resAllL, resOfL, List.append_nil, List.nil_append, List.cons_append, List.getElem?_cons_zero, List.take_succ_cons, List.drop_zero, List.take_nil, Nat.le_refl, Nat.lt_add_one, Nat.reduceLT, n0, n1, f0, hpos, hnr, hbr, hlenb, hw1, hlt, bl, hld, sl, Nat.zero_add, Nat.add_zero, hc', b0, hhd, s0, hclo, f1', hvis]
    · have hc' : ¬ ((en P (b.getLastD 0) : Nat) : Int) = ((st P (b.headD 0) : Nat) : Int) := by omega
      have hU := ringsU_step P u b hc
      cases c : (metB P b).testBit (en P (b.getLastD 0))
      · -- on
        rw [c] at hbit hU
        rw [if_neg (by simp)] at hU
        obtain ⟨bf, hlk, hbf⟩ := hW.J.look (en P (b.getLastD 0))
        have hbf' : frm P (en P (b.getLastD 0)) ≠ [] → N ≤ bf ∧ bf ≤ w := fun h => by
          obtain ⟨k1, rfl⟩ := hbf h
          have := hW.hb _ k1
          have := (hW.J.blk _ k1).2.1
          omega
        have hff : frm P (en P (b.getLastD 0)) ≠ [] → m[bf]? = some ⟨ints (ci (frm P (en P (b.getLastD 0)))), true⟩ := fun h => by
          obtain ⟨k1, rfl⟩ := hbf h
          exact (hW.J.blk _ k1).2.2
        have hfr : ∀ i ∈ frm P (en P (b.getLastD 0)), b.headD 0 < i → WalkOk X P (FN nl ex sz P) w β keys u (b ++ [i]) := fun i hi _ => by
          have hm := frmK_mem.1 hi
          refine walk_c X G u (b ++ [i]) (B.snoc hm.1 ?_) (by simp; omega)
          rw [fresh_met, hm.2, c]; rfl
        obtain ⟨m', O', hex, hI', hE', hO'⟩ := walk_loop X G hb hb6 B.lt (en P (b.getLastD 0)) (by omega) bf hbf' hfr (frm P (en P (b.getLastD 0))).length 0 s O m rv (by omega) hW hff hI hC hO hV (by rw [List.drop_zero, ← hU]; exact hs)
        rw [List.drop_zero, ← hU] at hI'
        simp only [Int.natCast_zero] at hex
        refine ⟨trim m.length [.bool true] m', O', ?_, X.trim hI' _ (by omega) _, hE'.trim _, hO'⟩
        refine call_W lp_ring_rings_1 rfl ?_
        have hln : lenL (GV bf (ci (frm P (en P (b.getLastD 0))))) = some (frm P (en P (b.getLastD 0))).length := by
          unfold GV
          split
          · rename_i h; rw [ci_nil.1 h]; rfl
          · simp only [lenL, ci_len]
        rcases hV with ⟨rfl, h1⟩ | ⟨br, rfl, hbr, hwb, hbO, hN⟩
        · have e0 : b.length - 1 = 0 := by omega
          rw [e0] at bl
          have hhl : b.headD 0 = b.getLastD 0 := by rw [← head_at b hpos, ← last_el b hlt]; simp only [e0]
          rw [hhl] at s0 hc'
          simp only [ring_rings_1, ring_rings_1.B, exF_seq, exF_region, exF_block, exF_cond, exF_ret, exF_skip, runL, wantL, stepL, evL, evC, LEnv.at, putL, loadFine, loadL, cellsAt, Trk.putNew, Trk.up, Trk.touch, Trk.gives, Trk.calm, Trk.hit, opdsOf, Trk.fresh, LEnv.keep, LEnv.ofFrom, List.map_cons, List.map_nil, nbeq, nble, nblt, ofAV, bin_sub, bin_eql, natL_nat, natL_zero, natL_one, List.any_cons, List.any_nil, Bool.or_false, Bool.or_true, Bool.and_true, Bool.false_and, Bool.not_true, Bool.not_false, Nat.reduceEqDiff, decide_true, decide_false, cond_true, cond_false, List.filter_nil, Nat.reduceAdd, Nat.reduceLeDiff, reduceCtorEq, List.length_nil, List.length_cons, Nat.mul_one, eq_self, retL, resultsL, resAllL, resOfL, List.getElem?_cons_zero, List.take_succ_cons, List.drop_zero, List.take_nil, Nat.le_refl, Nat.lt_add_one, Nat.reduceLT, lenL_lst, n0, n3, f0, f3, bl, hld, sl, Nat.zero_add, Nat.add_zero, hc', s0, hshr, hand, hbit, hlk, hln, hex, hw11]
        · have hbrl := get_lt hbr
          have hnr : ¬ m.length ≤ br := by omega
          simp only [ring_rings_1, ring_rings_1.B, exF_seq, exF_region, exF_block, exF_cond, exF_ret, exF_skip, runL, wantL, stepL, evL, evC, LEnv.at, putL, loadFine, loadL, cellsAt, Trk.putNew, Trk.up, Trk.touch, Trk.gives, Trk.calm, Trk.hit, opdsOf, Trk.fresh, LEnv.keep, LEnv.ofFrom, List.map_cons, List.map_nil, nbeq, nble, nblt, ofAV, bin_sub, bin_eql, natL_nat, natL_zero, natL_one, List.any_cons, List.any_nil, Bool.or_false, Bool.or_true, Bool.and_true, Bool.false_and, Bool.not_true, Bool.not_false, Nat.reduceEqDiff, decide_true, decide_false, cond_true, cond_false, List.filter_nil, Nat.reduceAdd, Nat.reduceLeDiff, reduceCtorEq, List.length_nil, List.length_cons, Nat.mul_one, eq_self, retL, resultsL, resAllL, resOfL, List.getElem?_cons_zero, List.take_succ_cons, List.drop_zero, List.take_nil, Nat.le_refl, Nat.lt_add_one, Nat.reduceLT, lenL_sl, n0, n3, f0, f3, hpos, hnr, hbr, hlenb, hw1, hlt, bl, hld, sl, Nat.zero_add, Nat.add_zero, hc', b0, hhd, s0, hshr, hand, hbit, hlk, hln, hex]
      · -- a form twice
        rw [c] at hbit hU
        rw [if_pos rfl] at hU
        rw [hU]
        refine ⟨m, O, ?_, hI, Exn.rfl' m O, fun i hi => .inl hi⟩
        have := call_W (m := m) (m1 := m) (v := .bool true) (args := [rv, .int .i64 ((metB P b : Nat) : Int), .ptr N 0 1, .ptr (N + 1) 0 1, .ptr (N + 3) 0 1, .ptr w 0 1]) lp_ring_rings_1 rfl (by
          rcases hV with ⟨rfl, h1⟩ | ⟨br, rfl, hbr, hwb, hbO, hN⟩
          · have e0 : b.length - 1 = 0 := by omega
            rw [e0] at bl
            have hhl : b.headD 0 = b.getLastD 0 := by rw [← head_at b hpos, ← last_el b hlt]; simp only [e0]
            rw [hhl] at s0 hc'
            simp only [ring_rings_1, ring_rings_1.B, exF_seq, exF_region, exF_cond, exF_ret, exF_skip, runL, wantL, stepL, evL, evC, LEnv.at, putL, loadFine, loadL, cellsAt, Trk.putNew, Trk.up, Trk.touch, Trk.gives, Trk.calm, Trk.hit, opdsOf, Trk.fresh, LEnv.keep, LEnv.ofFrom, List.map_cons, List.map_nil, nbeq, nble, nblt, lenL, bin_sub, bin_eql, natL_nat, natL_zero, natL_one, List.any_cons, List.any_nil, Bool.or_false, Bool.or_true, Bool.and_true, Bool.false_and, Bool.not_true, Bool.not_false, Nat.reduceEqDiff, decide_true, decide_false, cond_true, cond_false, List.filter_nil, Nat.reduceAdd, reduceCtorEq, List.length_nil, List.length_cons, Nat.mul_one, eq_self, retL, resultsL, resAllL, resOfL, List.getElem?_cons_zero, List.take_succ_cons, List.drop_zero, List.take_nil, Nat.le_refl, Nat.lt_add_one, Nat.reduceLT, n0, f0, bl, hld, sl, Nat.zero_add, Nat.add_zero, hc', s0, hshr, hand, hbit, hw11]
          · have hbrl := get_lt hbr
            have hnr : ¬ m.length ≤ br := by omega
            simp only [ring_rings_1, ring_rings_1.B, exF_seq, exF_region, exF_cond, exF_ret, exF_skip, runL, wantL, stepL, evL, evC, LEnv.at, putL, loadFine, loadL, cellsAt, Trk.putNew, Trk.up, Trk.touch, Trk.gives, Trk.calm, Trk.hit, opdsOf, Trk.fresh, LEnv.keep, LEnv.ofFrom, List.map_cons, List.map_nil, nbeq, nble, nblt, lenL, bin_sub, bin_eql, natL_nat, natL_zero, natL_one, List.any_cons, List.any_nil, Bool.or_false, Bool.or_true, Bool.and_true, Bool.false_and, Bool.not_true, Bool.not_false, Nat.reduceEqDiff, decide_true, decide_false, cond_true, cond_false, List.filter_nil, Nat.reduceAdd, reduceCtorEq, List.length_nil, List.length_cons, Nat.mul_one, eq_self, retL, resultsL, resAllL, resOfL, List.getElem?_cons_zero, List.take_succ_cons, List.drop_zero, List.take_nil, Nat.le_refl, Nat.lt_add_one, Nat.reduceLT, n0, f0, hpos, hnr, hbr, hlenb, hw1, hlt, bl, hld, sl, Nat.zero_add, Nat.add_zero, hc', b0, hhd, s0, hshr, hand, hbit])
        rw [this, trim_le _ _ _ (Nat.le_refl _)]
end Go.Am.Ring

