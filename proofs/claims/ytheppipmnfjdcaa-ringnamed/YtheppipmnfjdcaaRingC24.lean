import Derived.Test.YtheppipmnfjdcaaRingC22
/-
  What functions of chapter 04 compute, 24: the program's rings: the walk, and all of it.
-/
set_option linter.unusedVariables false
set_option linter.unusedSimpArgs false
set_option maxRecDepth 10000
namespace Go.Am.Ring
open Go.Am.G

theorem lenL_lst (nl ex : Bool) (sz n : Nat) (cs : List LV) : lenL (.lst nl ex sz n cs) = some n := rfl
theorem lenL_sl (i o n cap g sz L : Nat) : lenL (.sl i o n cap g sz L) = some n := rfl
theorem walk_loop {σ : Type} {N : Nat} (X : RVis σ N) {n : Nat} {P : List (Nat × Nat)} (G : Good n P) {fv : LV} {w : Nat} {β : Nat → Nat} {keys : List Nat} {u : Nat} {b : List Nat} (hb : b ≠ []) (hb6 : b.length ≤ 6) (hbl : ∀ k ∈ b, k < P.length) (y : Nat) (hy : y < 6) (bf : Nat) (hbf : frm P y ≠ [] → N ≤ bf ∧ bf ≤ w)
    (hr : ∀ i ∈ frm P y, b.headD 0 < i → WalkOk X P fv w β keys u (b ++ [i])) (j : Nat) : ∀ (k : Nat) (s : σ) (O : List Nat) (m : LMem) (rv : LV), k + j = (frm P y).length → WB X P fv w β keys m → (frm P y ≠ [] → m[bf]? = some ⟨ints (ci (frm P y)), true⟩) → X.I s O m → Cl m → (∀ i ∈ O, i < N ∨ w < i) → RVal w O m rv b →
      X.size s + ((((frm P y).drop k).filter fun i => decide (b.headD 0 < i)).flatMap fun i => ringsU P u (b ++ [i])).length ≤ 100000000 →
    ∃ m' O', exF LP ring_rings_1.L0 [(0, rv), (1, .int .i64 ((metB P b : Nat) : Int)), (5, .ptr w 0 1), (9, .int .i64 (y : Int)), (42, GV bf (ci (frm P y))), (43, .int .i64 (((frm P y).length : Nat) : Int)), (44, .int .i64 (k : Int))] m = some (.exit 0, [], m') ∧
      X.I (((((frm P y).drop k).filter fun i => decide (b.headD 0 < i)).flatMap fun i => ringsU P u (b ++ [i])).foldl X.vis s) O' m' ∧ Exn m m' O ∧ ∀ i ∈ O', i ∈ O ∨ m.length ≤ i := by
  have h12 := G.le12
  have hfl : (frm P y).length ≤ P.length := frmK_len P P.length y
  induction j with
  | zero =>
    intro k s O m rv hk _ _ hI _ _ _ _
    refine ⟨m, O, ?_, by rw [List.drop_eq_nil_of_le (by omega)]; exact hI, Exn.rfl' m O, fun i hi => .inl hi⟩
    rw [ring_rings_1.L0_eq]
    simp only [ring_rings_1.B0, exF_seq, exF_region, exF_cond, exF_exit, runL, wantL, stepL, evL, LEnv.at, putL, loadFine, LEnv.keep, List.map_cons, List.map_nil, nbeq, bin_lss, Nat.reduceEqDiff, decide_true, decide_false, cond_true, cond_false, reduceCtorEq, eq_self, show ¬ ((k : Int) < (((frm P y).length : Nat) : Int)) by omega]
  | succ j ih =>
    intro k s O m rv hk hW hf hI hC hO hV hs
    have h2 : k < (frm P y).length := by omega
    have hkk : (k : Int) < (((frm P y).length : Nat) : Int) := by omega
    have hne : frm P y ≠ [] := fun e => by rw [e] at h2; simp at h2
    have hcn : ci (frm P y) ≠ [] := fun h => hne (ci_nil.1 h)
    have hwk := wrap_succ (show k + 1 < 9223372036854775808 by omega)
    have hf1 := hf hne
    have hbf1 := hbf hne
    have hwl := get_lt hW.fw
    have hbfl : ¬ m.length ≤ bf := by omega
    have hwn : ¬ m.length ≤ w := by omega
    have hcl := ci_len (frm P y)
    have hpos : 0 < b.length := List.length_pos_iff.2 hb
    have hmem : (frm P y)[k] ∈ frm P y := List.getElem_mem h2
    have hmm := frmK_mem.1 hmem
    have hat : (ints (ci (frm P y)))[k]? = some (.int .i64 (((frm P y)[k] : Nat) : Int)) := by
      rw [List.getElem?_map, List.getElem?_map, List.getElem?_eq_getElem h2]; rfl
    have b0 : (ints (ci b))[0]? = some (.int .i64 ((b.headD 0 : Nat) : Int)) := by
      rw [List.getElem?_map, List.getElem?_map, List.getElem?_eq_getElem hpos, head_at b hpos]; rfl
    have hlen2 : (ints (ci (frm P y))).length = (frm P y).length := by simp
    have hlenb : (ints (ci b)).length = b.length := by simp
    have hfw := hW.fw
    rw [List.drop_eq_getElem_cons h2, List.filter_cons] at hs ⊢
    generalize hi : (frm P y)[k] = i at *
    have hGV : GV bf (ci (frm P y)) = .sl bf 0 (frm P y).length (frm P y).length 1 1 (frm P y).length := by simp only [GV, if_neg hcn, hcl]
    rw [hGV] at ih ⊢
    have hshl := sshl (show y < 32 by omega)
    have hml : metB P b < 64 := metB_lt b 0 (fun k hk => by have := (st_lt G (hbl k hk)).1; have := G.le6; omega) (by omega)
    have hpw : 2 ^ y < 2 ^ 6 := Nat.pow_lt_pow_right (by omega) hy
    have hor := sor (show metB P b < 4294967296 by omega) (show 2 ^ y < 4294967296 by omega)
    have hme : metB P b ||| 2 ^ y = metB P (b ++ [i]) := by rw [metB_snoc, hmm.2]
    rw [hme] at hor
    generalize ints (ci (frm P y)) = FC at *
    by_cases c : b.headD 0 < i
    · rw [if_pos (by simpa using c), List.flatMap_cons] at hs ⊢
      rw [List.length_append] at hs
      have c' : ((b.headD 0 : Nat) : Int) < (i : Int) := by omega
      obtain ⟨m1, O1, haw, ⟨q, hap⟩, hbr, hI1, hE1, hO1, hV1⟩ := walk_lent X hb hb6 (hr i hmem c) hW hI hC hO hV (by omega)
      have hszl := X.hszl (ringsU P u (b ++ [i])) s
      have hbt : ∀ i ∈ O1, i < N ∨ w < i := fun i hi => by
        rcases hO1 i hi with h | h
        · exact hO i h
        · exact .inr (by omega)
      have hkeep : ∀ i, N ≤ i → i ≤ w → m1[i]? = m[i]? := fun i h1 h2 => hE1.keep i (by omega) fun h => by
        rcases hO i h with h | h <;> omega
      obtain ⟨m', O', hex, hI', hE', hO'⟩ := ih (k + 1) _ O1 m1 rv (by omega) (hW.mono hkeep) (fun h => by rw [hkeep bf hbf1.1 hbf1.2]; exact hf1) hI1 (hE1.cl hC) hbt hV1 (by omega)
      refine ⟨m', O', ?_, by rw [List.foldl_append]; exact hI', hE1.trans hE' hO1, fun i hi => ?_⟩
      · rw [ring_rings_1.L0_eq]
        rcases hV with ⟨rfl, h1⟩ | ⟨br, rfl, hbr', hwb, hbO, hN⟩
        · simp only [ring_rings_1.B0, beqT, exF_seq, exF_region, exF_block, exF_cond, exF_skip, runL, wantL, stepL, evL, evC, LEnv.at, putL, loadFine, loadL, cellsAt, Trk.putNew, Trk.up, Trk.touch, Trk.gives, Trk.calm, Trk.hit, opdsOf, Trk.fresh, LEnv.keep, List.map_cons, List.map_nil, nbeq, nble, nblt, ofAV, ofAVs, bin_add, bin_lss, bin_gtr, natL_nat, natL_zero, List.any_cons, List.any_nil, Bool.or_false, Bool.or_true, Bool.and_true, Bool.false_and, Bool.not_true, Bool.not_false, Nat.reduceEqDiff, decide_true, decide_false, cond_true, cond_false, List.filter_nil, List.filter_cons, Nat.reduceAdd, Nat.reduceLeDiff, reduceCtorEq, List.length_nil, List.length_cons, Nat.mul_one, if_true, eq_self, List.append_nil, List.nil_append, unL, views_pures, LV.pures, LV.pure, freeze, Nat.reduceDiv, LV.cells, List.getElem?_cons_zero, spliceL, List.take_zero, List.take_succ_cons, List.drop_zero, List.drop_succ_cons, List.drop_nil, List.take_nil, Nat.le_refl, Nat.lt_add_one, fillL, hkk, h2, hbfl, hf1, hlen2, hat, Nat.zero_add, b0, c', haw, hap, hwn, hfw, hshl, hor, hbr, hwk, hex]
        · have hbrl := get_lt hbr'
          simp only [ring_rings_1.B0, beqT, exF_seq, exF_region, exF_block, exF_cond, exF_skip, runL, wantL, stepL, evL, evC, LEnv.at, putL, loadFine, loadL, cellsAt, Trk.putNew, Trk.up, Trk.touch, Trk.gives, Trk.calm, Trk.hit, opdsOf, Trk.fresh, LEnv.keep, List.map_cons, List.map_nil, nbeq, nble, nblt, ofAV, ofAVs, bin_add, bin_lss, bin_gtr, natL_nat, natL_zero, List.any_cons, List.any_nil, Bool.or_false, Bool.or_true, Bool.and_true, Bool.false_and, Bool.not_true, Bool.not_false, Nat.reduceEqDiff, decide_true, decide_false, cond_true, cond_false, List.filter_nil, List.filter_cons, Nat.reduceAdd, Nat.reduceLeDiff, reduceCtorEq, List.length_nil, List.length_cons, Nat.mul_one, if_true, eq_self, List.append_nil, List.nil_append, unL, views_pures, LV.pures, LV.pure, freeze, Nat.reduceDiv, LV.cells, List.getElem?_cons_zero, spliceL, List.take_zero, List.take_succ_cons, List.drop_zero, List.drop_succ_cons, List.drop_nil, List.take_nil, Nat.le_refl, fillL, hkk, h2, hbfl, hf1, hlen2, hat, Nat.zero_add, b0, c', haw, hap, hwn, hfw, hshl, hor, hbr, hwk, hex, hpos, hbr', hlenb, show ¬ m.length ≤ br by omega]
      · rcases hO' i hi with h | h
        · exact hO1 i h
        · exact .inr (by have := hE1.len; omega)
    · rw [if_neg (by simpa using c)] at hs ⊢
      have c' : ¬ ((b.headD 0 : Nat) : Int) < (i : Int) := by omega
      obtain ⟨m', O', hex, hI', hE', hO'⟩ := ih (k + 1) s O m rv (by omega) hW hf hI hC hO hV hs
      refine ⟨m', O', ?_, hI', hE', hO'⟩
      rw [ring_rings_1.L0_eq]
      rcases hV with ⟨rfl, h1⟩ | ⟨br, rfl, hbr', hwb, hbO, hN⟩
      · simp only [ring_rings_1.B0, beqT, exF_seq, exF_region, exF_block, exF_cond, exF_skip, runL, wantL, stepL, evL, evC, LEnv.at, putL, loadFine, loadL, cellsAt, Trk.putNew, Trk.up, Trk.touch, Trk.gives, Trk.calm, Trk.hit, opdsOf, Trk.fresh, LEnv.keep, List.map_cons, List.map_nil, nbeq, nble, nblt, bin_add, bin_lss, bin_gtr, natL_nat, natL_zero, List.any_cons, List.any_nil, Bool.or_false, Bool.or_true, Bool.and_true, Bool.false_and, Bool.not_true, Bool.not_false, Nat.reduceEqDiff, decide_true, decide_false, cond_true, cond_false, List.filter_nil, Nat.reduceAdd, Nat.reduceLeDiff, reduceCtorEq, Nat.mul_one, eq_self, List.drop_zero, Nat.le_refl, Nat.lt_add_one, hkk, h2, hbfl, hf1, hlen2, hat, Nat.zero_add, b0, c', hwk, hex]
      · have hbrl := get_lt hbr'
        simp only [ring_rings_1.B0, beqT, exF_seq, exF_region, exF_block, exF_cond, exF_skip, runL, wantL, stepL, evL, evC, LEnv.at, putL, loadFine, loadL, cellsAt, Trk.putNew, Trk.up, Trk.touch, Trk.gives, Trk.calm, Trk.hit, opdsOf, Trk.fresh, LEnv.keep, List.map_cons, List.map_nil, nbeq, nble, nblt, bin_add, bin_lss, bin_gtr, natL_nat, natL_zero, List.any_cons, List.any_nil, Bool.or_false, Bool.or_true, Bool.and_true, Bool.false_and, Bool.not_true, Bool.not_false, Nat.reduceEqDiff, decide_true, decide_false, cond_true, cond_false, List.filter_nil, Nat.reduceAdd, Nat.reduceLeDiff, reduceCtorEq, Nat.mul_one, eq_self, List.drop_zero, Nat.le_refl, hkk, h2, hbfl, hf1, hlen2, hat, Nat.zero_add, b0, c', hwk, hex, hpos, hbr', hlenb, show ¬ m.length ≤ br by omega]
theorem walk_c {σ : Type} {N : Nat} (X : RVis σ N) {n : Nat} {P : List (Nat × Nat)} (G : Good n P) {nl ex : Bool} {sz w : Nat} {β : Nat → Nat} {keys : List Nat} : ∀ (u : Nat) (b : List Nat), Beg n P b → b.length + u = 7 → WalkOk X P (FN nl ex sz P) w β keys u b
  | 0, b, B, hu => by have := B.len G; omega
  | u + 1, b, B, hu => by
    intro s O m rv hW hI hC hO hV hs
    have hb := B.ne
    have hb6 := B.len G
    have h6 := G.le6
    have hpos : 0 < b.length := List.length_pos_iff.2 hb
    have hcb : ci b ≠ [] := fun h => hb (ci_nil.1 h)
    have hhd : b.headD 0 < P.length := B.lt _ (by rw [← head_at b hpos]; exact List.getElem_mem _)
    have hld : b.getLastD 0 < P.length := B.lt _ (by rw [← last_el b (by omega)]; exact List.getElem_mem _)
    have b0 : (ints (ci b))[0]? = some (.int .i64 ((b.headD 0 : Nat) : Int)) := by
      rw [List.getElem?_map, List.getElem?_map, List.getElem?_eq_getElem hpos, head_at b hpos]; rfl
    have hlt : b.length - 1 < b.length := by omega
    have bl : (ints (ci b))[b.length - 1]? = some (.int .i64 ((b.getLastD 0 : Nat) : Int)) := by
      rw [List.getElem?_map, List.getElem?_map, List.getElem?_eq_getElem hlt, last_el b hlt]; rfl
    have s0 := pcS P _ hhd
    have sl := pcE P _ hld
    have hw1 : IntKind.i64.wrap (((b.length : Nat) : Int) - 1) = ((b.length - 1 : Nat) : Int) := by rw [wrap_in (by omega)]; omega
    have hw11 : IntKind.i64.wrap (((1 : Nat) : Int) - 1) = 0 := by decide
    have hlenb : (ints (ci b)).length = b.length := by simp
    have hcl := ci_len b
    have hwl := get_lt hW.fw
    have hw3 := hW.hw
    have n0 : ¬ m.length ≤ N := by omega
    have n1 : ¬ m.length ≤ N + 1 := by omega
    have n3 : ¬ m.length ≤ N + 3 := by omega
    have f0 := hW.J.f0
    have f1 := hW.J.f1
    have f3 := hW.J.f3
    have hen := (st_lt G hld).2.1
    have hml : metB P b < 64 := metB_lt b 0 (fun k hk => by have := (st_lt G (B.lt k hk)).1; omega) (by omega)
    have hshr := sshr (a := metB P b) (show en P (b.getLastD 0) < 64 by omega)
    have hdv : metB P b / 2 ^ en P (b.getLastD 0) < 4294967296 := Nat.lt_of_le_of_lt (Nat.div_le_self _ _) (by omega)
    have hand := sand1 hdv
    have hbit := bit_dec (metB P b) (en P (b.getLastD 0))
    simp only [FN_eq] at f0
    by_cases hc : en P (b.getLastD 0) = st P (b.headD 0)
    · -- a ring
      have hc' : ((en P (b.getLastD 0) : Nat) : Int) = ((st P (b.headD 0) : Nat) : Int) := by omega
      have hU : ringsU P (u + 1) b = [b] := by rw [ringsU, if_pos hc]
      rw [hU] at hs ⊢
      rcases hV with ⟨rfl, h1⟩ | ⟨br, rfl, hbr, hwb, hbO, hN⟩
      · exfalso
        match b, h1 with
        | [k], _ => exact (st_lt G (B.lt k (by simp))).2.2 hc.symm
      · have hbrl := get_lt hbr
        have hnr : ¬ m.length ≤ br := by omega
        have hv := views_one 92 m (.sl br 0 b.length b.length 1 1 b.length) (IL false false 1 (ci b)) [br] (fun k => by
          have := view_sl k m br 0 b.length b.length 1 (ci b) true hbr (by simp) (by omega) b.length (Nat.le_refl _)
          rw [List.drop_zero, List.take_of_length_le (by simp)] at this
          exact this) rfl
        have hclo := cloneI_m false (ci b) (by rw [hcl]; omega) hcb hv
        simp only [hcl] at hclo
        obtain ⟨m', O', hvis, hI', hE', hO'⟩ := X.hvis s O m b hI hb hb6 (by simp at hs; omega) (by omega) hC
        refine ⟨trim m.length [.bool true] m', O', ?_, X.trim hI' _ (by omega) _, hE'.trim _, hO'⟩
        refine call_W lp_ring_rings_1 rfl ?_
        have f1' : (m ++ [⟨ints (ci b), true⟩])[N + 1]? = some ⟨[.func X.f X.first X.cap], true⟩ := by rw [List.getElem?_append_left (by omega)]; exact f1
        simp only [List.cons_append, List.nil_append] at hvis
        simp only [ring_rings_1, ring_rings_1.B, exF_seq, exF_region, exF_cond, exF_ret, runL, wantL, stepL, evL, evC, LEnv.at, putL, loadFine, loadL, cellsAt, Trk.putNew, Trk.up, Trk.touch, Trk.gives, Trk.calm, Trk.hit, opdsOf, Trk.fresh, LEnv.keep, LEnv.ofFrom, List.map_cons, List.map_nil, nbeq, nble, nblt, ofAVs, lenL, bin_sub, bin_eql, natL_nat, natL_zero, natL_one, List.any_cons, List.any_nil, Bool.or_false, Bool.or_true, Bool.and_true, Bool.false_and, Bool.not_true, Bool.not_false, Nat.reduceEqDiff, decide_true, decide_false, cond_true, cond_false, List.filter_nil, Nat.reduceAdd, reduceCtorEq, List.length_nil, List.length_cons, Nat.mul_one, eq_self, retL, resultsL, resAllL, resOfL, List.append_nil, List.nil_append, List.cons_append, List.getElem?_cons_zero, List.take_succ_cons, List.drop_zero, List.take_nil, Nat.le_refl, Nat.lt_add_one, Nat.reduceLT, n0, n1, f0, hpos, hnr, hbr, hlenb, hw1, hlt, bl, hld, sl, Nat.zero_add, Nat.add_zero, hc', b0, hhd, s0, hclo, f1', hvis]
    · have hc' : ¬ ((en P (b.getLastD 0) : Nat) : Int) = ((st P (b.headD 0) : Nat) : Int) := by omega
      have hU := ringsU_step P u b hc
      cases c : (metB P b).testBit (en P (b.getLastD 0))
      · -- on
        rw [c] at hbit hU
        rw [if_neg (by simp)] at hU
        obtain ⟨bf, hlk, hbf⟩ := hW.J.look (en P (b.getLastD 0))
        have hbf' : frm P (en P (b.getLastD 0)) ≠ [] → N ≤ bf ∧ bf ≤ w := fun h => by
          obtain ⟨k1, rfl⟩ := hbf h
          have := hW.hb _ k1
          have := (hW.J.blk _ k1).2.1
          omega
        have hff : frm P (en P (b.getLastD 0)) ≠ [] → m[bf]? = some ⟨ints (ci (frm P (en P (b.getLastD 0)))), true⟩ := fun h => by
          obtain ⟨k1, rfl⟩ := hbf h
          exact (hW.J.blk _ k1).2.2
        have hfr : ∀ i ∈ frm P (en P (b.getLastD 0)), b.headD 0 < i → WalkOk X P (FN nl ex sz P) w β keys u (b ++ [i]) := fun i hi _ => by
          have hm := frmK_mem.1 hi
          refine walk_c X G u (b ++ [i]) (B.snoc hm.1 ?_) (by simp; omega)
          rw [fresh_met, hm.2, c]; rfl
        obtain ⟨m', O', hex, hI', hE', hO'⟩ := walk_loop X G hb hb6 B.lt (en P (b.getLastD 0)) (by omega) bf hbf' hfr (frm P (en P (b.getLastD 0))).length 0 s O m rv (by omega) hW hff hI hC hO hV (by rw [List.drop_zero, ← hU]; exact hs)
        rw [List.drop_zero, ← hU] at hI'
        simp only [Int.natCast_zero] at hex
        refine ⟨trim m.length [.bool true] m', O', ?_, X.trim hI' _ (by omega) _, hE'.trim _, hO'⟩
        refine call_W lp_ring_rings_1 rfl ?_
        have hln : lenL (GV bf (ci (frm P (en P (b.getLastD 0))))) = some (frm P (en P (b.getLastD 0))).length := by
          unfold GV
          split
          · rename_i h; rw [ci_nil.1 h]; rfl
          · simp only [lenL, ci_len]
        rcases hV with ⟨rfl, h1⟩ | ⟨br, rfl, hbr, hwb, hbO, hN⟩
        · have e0 : b.length - 1 = 0 := by omega
          rw [e0] at bl
          have hhl : b.headD 0 = b.getLastD 0 := by rw [← head_at b hpos, ← last_el b hlt]; simp only [e0]
          rw [hhl] at s0 hc'
          simp only [ring_rings_1, ring_rings_1.B, exF_seq, exF_region, exF_block, exF_cond, exF_ret, exF_skip, runL, wantL, stepL, evL, evC, LEnv.at, putL, loadFine, loadL, cellsAt, Trk.putNew, Trk.up, Trk.touch, Trk.gives, Trk.calm, Trk.hit, opdsOf, Trk.fresh, LEnv.keep, LEnv.ofFrom, List.map_cons, List.map_nil, nbeq, nble, nblt, ofAV, bin_sub, bin_eql, natL_nat, natL_zero, natL_one, List.any_cons, List.any_nil, Bool.or_false, Bool.or_true, Bool.and_true, Bool.false_and, Bool.not_true, Bool.not_false, Nat.reduceEqDiff, decide_true, decide_false, cond_true, cond_false, List.filter_nil, Nat.reduceAdd, Nat.reduceLeDiff, reduceCtorEq, List.length_nil, List.length_cons, Nat.mul_one, eq_self, retL, resultsL, resAllL, resOfL, List.getElem?_cons_zero, List.take_succ_cons, List.drop_zero, List.take_nil, Nat.le_refl, Nat.lt_add_one, Nat.reduceLT, lenL_lst, n0, n3, f0, f3, bl, hld, sl, Nat.zero_add, Nat.add_zero, hc', s0, hshr, hand, hbit, hlk, hln, hex, hw11]
        · have hbrl := get_lt hbr
          have hnr : ¬ m.length ≤ br := by omega
          simp only [ring_rings_1, ring_rings_1.B, exF_seq, exF_region, exF_block, exF_cond, exF_ret, exF_skip, runL, wantL, stepL, evL, evC, LEnv.at, putL, loadFine, loadL, cellsAt, Trk.putNew, Trk.up, Trk.touch, Trk.gives, Trk.calm, Trk.hit, opdsOf, Trk.fresh, LEnv.keep, LEnv.ofFrom, List.map_cons, List.map_nil, nbeq, nble, nblt, ofAV, bin_sub, bin_eql, natL_nat, natL_zero, natL_one, List.any_cons, List.any_nil, Bool.or_false, Bool.or_true, Bool.and_true, Bool.false_and, Bool.not_true, Bool.not_false, Nat.reduceEqDiff, decide_true, decide_false, cond_true, cond_false, List.filter_nil, Nat.reduceAdd, Nat.reduceLeDiff, reduceCtorEq, List.length_nil, List.length_cons, Nat.mul_one, eq_self, retL, resultsL, resAllL, resOfL, List.getElem?_cons_zero, List.take_succ_cons, List.drop_zero, List.take_nil, Nat.le_refl, Nat.lt_add_one, Nat.reduceLT, lenL_sl, n0, n3, f0, f3, hpos, hnr, hbr, hlenb, hw1, hlt, bl, hld, sl, Nat.zero_add, Nat.add_zero, hc', b0, hhd, s0, hshr, hand, hbit, hlk, hln, hex]
      · -- a form twice
        rw [c] at hbit hU
        rw [if_pos rfl] at hU
        rw [hU]
        refine ⟨m, O, ?_, hI, Exn.rfl' m O, fun i hi => .inl hi⟩
        have := call_W (m := m) (m1 := m) (v := .bool true) (args := [rv, .int .i64 ((metB P b : Nat) : Int), .ptr N 0 1, .ptr (N + 1) 0 1, .ptr (N + 3) 0 1, .ptr w 0 1]) lp_ring_rings_1 rfl (by
          rcases hV with ⟨rfl, h1⟩ | ⟨br, rfl, hbr, hwb, hbO, hN⟩
          · have e0 : b.length - 1 = 0 := by omega
            rw [e0] at bl
            have hhl : b.headD 0 = b.getLastD 0 := by rw [← head_at b hpos, ← last_el b hlt]; simp only [e0]
            rw [hhl] at s0 hc'
            simp only [ring_rings_1, ring_rings_1.B, exF_seq, exF_region, exF_cond, exF_ret, exF_skip, runL, wantL, stepL, evL, evC, LEnv.at, putL, loadFine, loadL, cellsAt, Trk.putNew, Trk.up, Trk.touch, Trk.gives, Trk.calm, Trk.hit, opdsOf, Trk.fresh, LEnv.keep, LEnv.ofFrom, List.map_cons, List.map_nil, nbeq, nble, nblt, lenL, bin_sub, bin_eql, natL_nat, natL_zero, natL_one, List.any_cons, List.any_nil, Bool.or_false, Bool.or_true, Bool.and_true, Bool.false_and, Bool.not_true, Bool.not_false, Nat.reduceEqDiff, decide_true, decide_false, cond_true, cond_false, List.filter_nil, Nat.reduceAdd, reduceCtorEq, List.length_nil, List.length_cons, Nat.mul_one, eq_self, retL, resultsL, resAllL, resOfL, List.getElem?_cons_zero, List.take_succ_cons, List.drop_zero, List.take_nil, Nat.le_refl, Nat.lt_add_one, Nat.reduceLT, n0, f0, bl, hld, sl, Nat.zero_add, Nat.add_zero, hc', s0, hshr, hand, hbit, hw11]
          · have hbrl := get_lt hbr
            have hnr : ¬ m.length ≤ br := by omega
            simp only [ring_rings_1, ring_rings_1.B, exF_seq, exF_region, exF_cond, exF_ret, exF_skip, runL, wantL, stepL, evL, evC, LEnv.at, putL, loadFine, loadL, cellsAt, Trk.putNew, Trk.up, Trk.touch, Trk.gives, Trk.calm, Trk.hit, opdsOf, Trk.fresh, LEnv.keep, LEnv.ofFrom, List.map_cons, List.map_nil, nbeq, nble, nblt, lenL, bin_sub, bin_eql, natL_nat, natL_zero, natL_one, List.any_cons, List.any_nil, Bool.or_false, Bool.or_true, Bool.and_true, Bool.false_and, Bool.not_true, Bool.not_false, Nat.reduceEqDiff, decide_true, decide_false, cond_true, cond_false, List.filter_nil, Nat.reduceAdd, reduceCtorEq, List.length_nil, List.length_cons, Nat.mul_one, eq_self, retL, resultsL, resAllL, resOfL, List.getElem?_cons_zero, List.take_succ_cons, List.drop_zero, List.take_nil, Nat.le_refl, Nat.lt_add_one, Nat.reduceLT, n0, f0, hpos, hnr, hbr, hlenb, hw1, hlt, bl, hld, sl, Nat.zero_add, Nat.add_zero, hc', b0, hhd, s0, hshr, hand, hbit])
        rw [this, trim_le _ _ _ (Nat.le_refl _)]
end Go.Am.Ring

/-
  What functions of chapter 04 compute, 25: the program's rings, for any visitor.
-/
set_option linter.unusedVariables false
set_option linter.unusedSimpArgs false
set_option maxRecDepth 10000
namespace Go.Am.Ring
open Go.Am.G

theorem rings_loop {σ : Type} {N : Nat} (X : RVis σ N) {n : Nat} {P : List (Nat × Nat)} (G : Good n P) {nl ex : Bool} {sz w : Nat} {β : Nat → Nat} {keys : List Nat} (j : Nat) : ∀ (k : Nat) (s : σ) (O : List Nat) (m : LMem), k + j = P.length → WB X P (FN nl ex sz P) w β keys m → X.I s O m → Cl m → (∀ i ∈ O, i < N ∨ w < i) → X.size s + ((List.range' k j).flatMap fun i => ringsU P 6 [i]).length ≤ 100000000 →
    ∃ m' O', exF LP ring_rings.L1 [(7, .ptr w 0 1), (30, FN nl ex sz P), (31, .int .i64 (P.length : Int)), (32, .int .i64 (k : Int))] m = some (.exit 2, [], m') ∧ X.I (((List.range' k j).flatMap fun i => ringsU P 6 [i]).foldl X.vis s) O' m' ∧ Exn m m' O ∧ ∀ i ∈ O', i ∈ O ∨ m.length ≤ i := by
  have h12 := G.le12
  have h6 := G.le6
  induction j with
  | zero =>
    intro k s O m hk hW hI hC hO hs
    obtain rfl : k = P.length := by omega
    refine ⟨m, O, ?_, hI, Exn.rfl' m O, fun i hi => .inl hi⟩
    rw [ring_rings.L1_eq]
    simp only [ring_rings.B1, exF_seq, exF_region, exF_cond, exF_exit, runL, wantL, stepL, evL, LEnv.at, putL, loadFine, LEnv.keep, List.map_cons, List.map_nil, nbeq, bin_lss, Nat.reduceEqDiff, decide_true, decide_false, cond_true, cond_false, eq_self, show ¬ ((P.length : Int) < (P.length : Int)) by omega]
  | succ j ih =>
    intro k s O m hk hW hI hC hO hs
    have h2 : k < P.length := by omega
    have hkk : (k : Int) < (P.length : Int) := by omega
    have hwk := wrap_succ (show k + 1 < 9223372036854775808 by omega)
    have hwl := get_lt hW.fw
    have hw3 := hW.hw
    have seg := pcSE P k h2
    have ok := pcN_ok P k h2
    have hst := (st_lt G h2).1
    have hshl := sshl (show st P k < 32 by omega)
    have hm1 : metB P [k] = 2 ^ st P k := by simp [metB]
    rw [List.range'_succ, List.flatMap_cons] at hs ⊢
    rw [List.length_append] at hs
    rw [List.foldl_append]
    let pr : LBlk := ⟨[.int .i64 ((st P k : Nat) : Int), .int .i64 ((en P k : Nat) : Int)], true⟩
    have hE0 : Exn m (m ++ [pr]) O := Exn.app O fun j => rfl
    have hI0 : X.I s O (m ++ [pr]) := X.hI s O m _ hI fun i hi => by rw [List.getElem?_append_left (X.hlt s O m hI i hi)]
    have hW0 : WB X P (FN nl ex sz P) w β keys (m ++ [pr]) := hW.mono fun i _ hi => by rw [List.getElem?_append_left (by omega)]
    obtain ⟨m1, O1, hc, hI1, hE1, hO1⟩ := walk_c X G 6 [k] ⟨by simp, by simpa using h2, by simp⟩ rfl s O (m ++ [pr]) (.lst false true 1 1 (ints (ci [k]))) hW0 hI0 (hE0.cl hC) hO (.inl ⟨rfl, rfl⟩) (by omega)
    have hE2 : Exn m m1 O := hE0.trans hE1 fun i hi => .inl hi
    have hO2 : ∀ i ∈ O1, i ∈ O ∨ m.length ≤ i := fun i hi => by
      rcases hO1 i hi with h | h
      · exact .inl h
      · simp at h; exact .inr (by omega)
    rw [hm1] at hc
    have hE3 := hE2.trim (envVals [(7, .ptr w 0 1), (30, FN nl ex sz P), (31, .int .i64 (P.length : Int)), (32, .int .i64 ((k + 1 : Nat) : Int))])
    have hI3 := X.trim hI1 m.length (by omega) (envVals [(7, .ptr w 0 1), (30, FN nl ex sz P), (31, .int .i64 (P.length : Int)), (32, .int .i64 ((k + 1 : Nat) : Int))])
    have hszl := X.hszl (ringsU P 6 [k]) s
    obtain ⟨m', O', hex, hI', hE', hO'⟩ := ih (k + 1) _ O1 _ (by omega) (hW.mono fun i h1 h2 => hE3.keep i (by omega) fun h => by rcases hO i h with h | h <;> omega) hI3 (hE3.cl hC) (fun i hi => by
      rcases hO2 i hi with h | h
      · exact hO i h
      · exact .inr (by omega)) (by omega)
    refine ⟨m', O', ?_, hI', hE3.trans hE' hO2, fun i hi => ?_⟩
    · have fw : ∀ b : LBlk, (m ++ [b])[w]? = some ⟨[.func n_ring_rings_1 [] [.ptr N 0 1, .ptr (N + 1) 0 1, .ptr (N + 3) 0 1, .ptr w 0 1]], true⟩ := fun b => by rw [List.getElem?_append_left (by omega)]; exact hW.fw
      rw [ring_rings.L1_eq]
      simp only [FN_eq, List.map_cons, List.map_nil] at hex hc ⊢
      simp only [pr] at hc
      simp only [ring_rings.B1, exF_seq, exF_region, exF_block, exF_cond, exF_skip, runL, wantL, stepL, evL, evC, LEnv.at, putL, loadFine, loadL, cellsAt, Trk.putNew, Trk.up, Trk.touch, Trk.gives, Trk.calm, Trk.hit, opdsOf, Trk.fresh, LEnv.keep, List.map_cons, List.map_nil, nbeq, nble, nblt, ofAV, ofAVs, bin_add, bin_lss, natL_nat, natL_zero, List.any_cons, List.any_nil, Bool.or_false, Bool.or_true, Bool.and_true, Bool.false_and, Bool.not_true, Bool.not_false, Nat.reduceEqDiff, decide_true, decide_false, cond_true, cond_false, List.filter_nil, List.filter_cons, Nat.reduceAdd, Nat.reduceLeDiff, reduceCtorEq, List.length_nil, List.length_cons, Nat.mul_one, if_true, eq_self, List.append_nil, List.nil_append, List.cons_append, unL, LV.pures, LV.pure, freeze, Nat.reduceDiv, LV.cells, allocL, List.getElem?_cons_zero, storeL, spliceL, List.take_zero, List.take_succ_cons, List.drop_zero, List.drop_succ_cons, List.drop_nil, List.take_nil, Nat.le_refl, LV.scalar, List.all_cons, List.all_nil, Nat.reduceLT, fillL, List.length_append, hkk, h2, seg, ok, set_last, get_last, show ¬ m.length + 1 ≤ w by omega, show ¬ m.length + 1 ≤ m.length by omega, fw, views, viewL, hshl, hc, hwk, hex]
    · rcases hO' i hi with h | h
      · exact hO2 i h
      · exact .inr (by have := hE3.len; omega)
theorem rings_c {σ : Type} {m : LMem} (X : RVis σ m.length) {n : Nat} {P : List (Nat × Nat)} (G : Good n P) (nl ex : Bool) (sz : Nat) (s : σ) (O : List Nat) (hI : X.I s O m) (hC : Cl m) (hf : LV.under m.length (.func X.f X.first X.cap) = true) (hs : X.size s = 0) :
    ∃ m' O', clF LP n_ring_rings [FN nl ex sz P, .func X.f X.first X.cap] m = some (.W, .tup [], m') ∧ X.I ((allR P).foldl X.vis s) O' m' := by
  have hlt := X.hlt s O m hI
  let m1 : LMem := m ++ [⟨[FN nl ex sz P], true⟩] ++ [⟨[.func X.f X.first X.cap], true⟩] ++ [⟨[.ents []], true⟩] ++ [⟨[.map (m.length + 2)], true⟩]
  have l1 : m1.length = m.length + 4 := by simp [m1]
  have g0 : m1[m.length]? = some ⟨[FN nl ex sz P], true⟩ := by simp [m1]
  have g1 : m1[m.length + 1]? = some ⟨[.func X.f X.first X.cap], true⟩ := by simp [m1]
  have g2 : m1[m.length + 2]? = some ⟨[.ents []], true⟩ := by simp [m1]
  have g3 : m1[m.length + 3]? = some ⟨[.map (m.length + 2)], true⟩ := by simp [m1]
  have J1 : FJ P m.length 0 (FN nl ex sz P) (.func X.f X.first X.cap) (fun _ => 0) [] m1 := ⟨g0, g1, by rw [g2]; rfl, g3, by simp, fun x _ => by simp [frmK], fun x hx => by simp at hx, fun x hx => by simp at hx⟩
  have C1 : Cl m1 := by
    intro i hi
    rw [l1] at hi
    refine NR.app (NR.app (NR.app (NR.app (hC i (by omega)) rfl) ?_) rfl) ?_
    · simp only [LV.noRefs, Bool.and_true]; exact under_noRef (by omega) hf
    · simp only [LV.noRefs, LV.noRef, nbeq, Bool.and_true, Bool.not_eq_true', decide_eq_false_iff_not]; omega
  obtain ⟨m2, β, keys, hex1, J2, C2, l2, k2⟩ := from_loop P G.le12 nl ex sz m.length (.func X.f X.first X.cap) P.length 0 m1 _ _ (by omega) J1 C1 (by omega)
  have k12 : ∀ i, i < m.length → m1[i]? = m[i]? := fun i hi => by simp only [m1]; rw [List.getElem?_append_left (by simp; omega), List.getElem?_append_left (by simp; omega), List.getElem?_append_left (by simp; omega), List.getElem?_append_left (by omega)]
  let m3 : LMem := m2 ++ [⟨[.func n_ring_rings_1 [] [.ptr m.length 0 1, .ptr (m.length + 1) 0 1, .ptr (m.length + 3) 0 1, .ptr m2.length 0 1]], true⟩]
  have up3 : ∀ i, i < m2.length → m3[i]? = m2[i]? := fun i hi => by simp only [m3]; rw [List.getElem?_append_left hi]
  have W3 : WB X P (FN nl ex sz P) m2.length β keys m3 := by
    refine ⟨⟨by rw [up3 _ (by omega)]; exact J2.f0, by rw [up3 _ (by omega)]; exact J2.f1, by rw [up3 _ (by omega)]; exact J2.f2, by rw [up3 _ (by omega)]; exact J2.f3, J2.nd, J2.cov, fun x hx => ?_, J2.inj⟩, by omega, get_last _ _, fun x hx => get_lt (J2.blk x hx).2.2⟩
    obtain ⟨d1, d2, d3⟩ := J2.blk x hx
    exact ⟨d1, d2, by rw [up3 _ (get_lt d3)]; exact d3⟩
  have C3 : Cl m3 := by
    intro i hi
    simp only [m3, List.length_append, List.length_singleton] at hi
    refine NR.app (C2 i (by omega)) ?_
    simp only [LV.noRefs, LV.noRef, nbeq, Bool.and_true, Bool.true_and, Bool.and_eq_true, Bool.not_eq_true', decide_eq_false_iff_not]
    omega
  have I3 : X.I s O m3 := X.hI s O m m3 hI fun i hi => by have := hlt i hi; rw [up3 i (by omega), k2 i this, k12 i this]
  have hal := allR_len G
  have hall : allR P = (List.range' 0 P.length).flatMap fun i => ringsU P 6 [i] := by rw [allR, List.range_eq_range']
  rw [hall] at hal
  obtain ⟨m4, O', hex2, hI4, hE4, hO4⟩ := rings_loop X G P.length 0 s O m3 (by omega) W3 I3 C3 (fun i hi => .inl (hlt i hi)) (by omega)
  rw [← hall] at hI4
  refine ⟨trim m.length [.tup []] m4, O', ?_, X.trim hI4 _ (Nat.le_refl _) _⟩
  refine call_W lp_ring_rings rfl ?_
  have f0 := J2.f0
  have nn : ¬ m2.length ≤ m.length := by omega
  have s0 : ((m2 ++ [⟨[LV.nilFunc], true⟩] : LMem).set m2.length ⟨[.func n_ring_rings_1 [] [.ptr m.length 0 1, .ptr (m.length + 1) 0 1, .ptr (m.length + 3) 0 1, .ptr m2.length 0 1]], true⟩) = m3 := set_last _ _ _
  have s1 : ((m ++ [⟨[FN nl ex sz P], true⟩] ++ [⟨[.func X.f X.first X.cap], true⟩] ++ [⟨[.ents []], true⟩] ++ [⟨[LV.nilmap], true⟩] : LMem).set (m.length + 3) ⟨[.map (m.length + 2)], true⟩) = m1 := by
    have := set_last (m ++ [⟨[FN nl ex sz P], true⟩] ++ [⟨[.func X.f X.first X.cap], true⟩] ++ [⟨[.ents []], true⟩]) ⟨[LV.nilmap], true⟩ ⟨[.map (m.length + 2)], true⟩
    refine Eq.trans ?_ this
    congr 1
    simp
  have s2 : ((m ++ [⟨[FN nl ex sz P], true⟩] ++ [⟨[.func X.f X.first X.cap], true⟩] ++ [⟨[.ents []], true⟩] ++ [⟨[LV.nilmap], true⟩] : LMem))[m.length + 3]? = some ⟨[LV.nilmap], true⟩ := by simp
  have f03 : m3[m.length]? = some ⟨[FN nl ex sz P], true⟩ := by rw [up3 _ (by omega)]; exact f0
  have gl : ((m2 ++ [⟨[LV.nilFunc], true⟩] : LMem))[m2.length]? = some ⟨[LV.nilFunc], true⟩ := get_last _ _
  have e1 : ∀ a : LBlk, (m ++ [a]).length = m.length + 1 := fun a => by simp
  have e2 : ∀ a b : LBlk, (m ++ [a] ++ [b]).length = m.length + 2 := fun a b => by simp
  have e3 : ∀ a b c : LBlk, (m ++ [a] ++ [b] ++ [c]).length = m.length + 3 := fun a b c => by simp
  simp only [Int.natCast_zero] at hex1 hex2
  simp only [FN_eq] at hex1 hex2 s1 s2 f0 f03 g0 ⊢
  simp only [ring_rings, ring_rings.B, exF_seq, exF_region, exF_block, runL, wantL, stepL, evL, evC, LEnv.at, putL, loadFine, loadL, cellsAt, Trk.calm, Trk.hit, LEnv.keep, LEnv.ofFrom, List.map_cons, List.map_nil, nbeq, nble, ofAV, ofAVs, lenL, List.any_nil, Bool.or_false, Bool.false_or, Bool.true_or, Bool.or_true, Bool.and_true, Bool.false_and, Bool.not_true, Bool.not_false, Nat.reduceEqDiff, decide_true, decide_false, cond_true, cond_false, Nat.reduceAdd, Nat.reduceLeDiff, reduceCtorEq, List.length_nil, List.length_cons, eq_self, retL, resultsL, resAllL, List.append_nil, List.nil_append, LV.cells, allocL, List.getElem?_cons_zero, storeL, spliceL, List.take_zero, List.take_succ_cons, List.drop_zero, List.drop_succ_cons, List.drop_nil, List.take_nil, Nat.le_refl, LV.scalar, List.all_cons, List.all_nil, e1, e2, e3, s1, s2, g0, show ¬ m1.length ≤ m.length by omega, hex1, gl, s0, f03, hex2]
end Go.Am.Ring

/-
  What functions of chapter 04 compute, 26: the shortest ring, of the program.
-/
set_option linter.unusedVariables false
set_option linter.unusedSimpArgs false
set_option maxRecDepth 10000
namespace Go.Am.Ring
open Go.Am.G

end Go.Am.Ring


