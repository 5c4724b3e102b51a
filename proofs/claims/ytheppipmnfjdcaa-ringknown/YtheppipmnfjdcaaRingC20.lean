/-
  What functions of chapter 04 compute, 20: the program's Strike.
-/
import Derived.Test.YtheppipmnfjdcaaRingP5
import Derived.Test.YtheppipmnfjdcaaRingP5
set_option linter.unusedVariables false
set_option linter.unusedSimpArgs false
set_option maxRecDepth 10000
namespace Go.Am.Ring
open Go.Am.G

/-- Finds in memory, in a block that may have more room. -/
def LV2 (m : LMem) (v : LV) (ib : Nat) (l : List (Nat × Nat)) : Prop :=
  ∃ cap L Z w, v = .sl ib 0 l.length cap 2 2 L ∧ m[ib]? = some ⟨Pcs l ++ Z, w⟩ ∧ (Pcs l ++ Z).length = L ∧ l.length ≤ cap
theorem LV2.view {m : LMem} {v : LV} {ib : Nat} {l : List (Nat × Nat)} (h : LV2 m v ib l) : ∃ ex, ∀ k, view (k + 3) m v = some (FN false ex 2 l, [ib]) := by
  obtain ⟨cap, L, Z, w, rfl, hm, hL, hc⟩ := h
  have hp := Pcs_len l
  have hlen : (Pcs l ++ Z).length = l.length * 2 + Z.length := by rw [List.length_append, hp]
  have htk : (Pcs l ++ Z).take (l.length * 2) = Pcs l := by rw [List.take_append_of_le_length (by omega), List.take_of_length_le (by omega)]
  refine ⟨Nat.beq 2 0 && Nat.beq cap l.length, fun k => ?_⟩
  have := view_slc k m ib 0 l.length L 2 cap 2 (Pcs l ++ Z) w hm (by rw [List.drop_zero, htk]; exact Pcs_pures l) hL (by omega) hc
  rw [List.drop_zero, htk] at this
  simp only [FN_eq]
  exact this
theorem views_fill {m : LMem} {v : LV} {ib : Nat} {l : List (Nat × Nat)} (n : Nat) (ex : Bool) (h : ∀ k, Go.Am.view (k + 3) m v = some (FN false ex 2 l, [ib])) (hv : v.pure = false) : views m [.int .i64 (n : Int), v, .func n_ring_anyForm [] []] = some ([.int .i64 (n : Int), FN false ex 2 l, .func n_ring_anyForm [] []], [ib]) := by
  show viewL 100 m _ = _
  rw [viewL.eq_def]
  simp only [show LV.pures [.int .i64 (n : Int), v, .func n_ring_anyForm [] []] = false by simp [LV.pures, LV.pure, hv], cond_false]
  rw [viewC.eq_def]
  simp only [view_pure 96 m (.int .i64 (n : Int)) rfl]
  rw [viewC.eq_def]
  simp only [h 94]
  rw [viewC.eq_def]
  simp only [view_pure 94 m (.func n_ring_anyForm [] []) rfl]
  rw [viewC.eq_def]
  rfl
theorem clone2_m {args : List LV} {ids : List Nat} {m : LMem} (ex : Bool) (l : List (Int × Int)) (hl : l.length < 1000) (hne : l ≠ []) (hv : views m args = some ([FL false ex 2 l], ids)) : clF LP n_slices_Clone_2_int_2_int args m = some (.O, .sl m.length 0 l.length l.length 2 2 (l.length * 2), m ++ [⟨pcI l, true⟩]) := by
  have h0 : ¬ l.length = 0 := by simpa using hne
  have hr1 : l.length * 16 ≤ roomMost := by unfold roomMost; omega
  have hr2 : l.length ≤ roomMost := by unfold roomMost; omega
  have hsc : (pcI l).all LV.scalar = true := by
    clear hv hl hne h0 hr1 hr2
    induction l with
    | nil => rfl
    | cons a r ih => exact ih
  have hpl := pcI_len l
  have hshift : ∀ n, LV.shifts n (pcI l) = pcI l := by
    intro n
    rw [pcI]
    clear hv hl hne h0 hr1 hr2 hsc hpl
    induction l with
    | nil => rfl
    | cons a r ih => rw [List.flatMap_cons]; simp only [pc, List.cons_append, List.nil_append, LV.shifts, LV.shift, ih]
  have hsolid : LV.solids (pcI l) = true := by
    rw [pcI]
    clear hv hl hne h0 hr1 hr2 hsc hpl hshift
    induction l with
    | nil => rfl
    | cons a r ih => rw [List.flatMap_cons]; simp only [pc, List.cons_append, List.nil_append, LV.solids, LV.solid, ih, Bool.true_and]
  rw [clF_eq, lp_slices_Clone_2_int_2_int]
  simp only [callMode, slices_Clone_2_int_2_int, hv]
  simp only [slices_Clone_2_int_2_int.B, exF_seq, exF_region, exF_cond, exF_ret, exF_skip, runL, wantL, stepL, evL, evC, LEnv.at, putL, loadFine, LEnv.keep, LEnv.ofFrom, List.map_cons, List.map_nil, nbeq, nble, ofAVs, Nat.zero_mul, Bool.or_false, Bool.or_true, Bool.and_true, Nat.reduceEqDiff, decide_true, decide_false, cond_true, cond_false, reduceCtorEq, List.length_nil, eq_self, retL, resultsL, resAllL, resOfL, List.nil_append, freeze, Nat.reduceDiv, List.take_nil, List.all_cons, List.all_nil, fillL, nilOf, eqsL, Bool.xor_false, LV.shift, newOnly, LV.solid, appendL, contents, views, viewL, h0, hr1, hr2, hsc, newSl, Nat.zero_add, hshift, hsolid]
theorem filled_m {m : LMem} {v : LV} {ib : Nat} {l : List (Nat × Nat)} (n : Nat) (G : Good n l) (h : LV2 m v ib l) : ∃ m', clF LP n_ring_filled [.int .i64 (n : Int), v, .func n_ring_anyForm [] []] m = some (.P, .elt (tabA n l) 0, m') ∧ (∀ i, i ≠ ib → m'[i]? = m[i]?) ∧ m'.length = m.length ∧ LV2 m' v ib l := by
  obtain ⟨ex, hv⟩ := h.view
  obtain ⟨cap, L, Z, w, rfl, hm, hL, hc⟩ := h
  obtain ⟨m', h1, h2, h3, h4⟩ := call_shown2 lp_ring_filled rfl (views_fill n ex hv rfl) (by simp [LV.pures, LV.pure]) (filledA_c n l G false ex 2 [])
  obtain ⟨w', hm'⟩ := h4 ib _ _ hm
  exact ⟨m', h1, fun i hi => h2 i (by simpa using hi), h3, cap, L, Z, w', rfl, hm', hL, hc⟩
theorem LV2.mono {m m' : LMem} {v : LV} {ib : Nat} {l : List (Nat × Nat)} (h : LV2 m v ib l) (e : m'[ib]? = m[ib]?) : LV2 m' v ib l := by
  obtain ⟨cap, L, Z, w, h1, h2, h3, h4⟩ := h
  exact ⟨cap, L, Z, w, h1, by rw [e]; exact h2, h3, h4⟩
theorem LV2.lt {m : LMem} {v : LV} {ib : Nat} {l : List (Nat × Nat)} (h : LV2 m v ib l) : ib < m.length := by
  obtain ⟨cap, L, Z, w, h1, h2, h3, h4⟩ := h
  rcases Nat.lt_or_ge ib m.length with c | c
  · exact c
  · rw [List.getElem?_eq_none c] at h2; cases h2
theorem Pcs_app (a b : List (Nat × Nat)) : Pcs (a ++ b) = Pcs a ++ Pcs b := by simp [Pcs, pcI]
theorem strike_ploop (n : Nat) (P : List (Nat × Nat)) (G : Good n P) (d : Nat) : ∀ (i : Nat) (b : List Nat) (M : LMem) (vo v : LV) (ib : Nat), i + d = P.length → b.Nodup → (∀ x ∈ b, x < i) → Lst M vo 1 b.length ((ci b).map (LV.int .i64)) → LV2 M v ib (wS P b) → ¬ isBlk vo ib →
    ∃ vo' M', exF LP ring_Strike.L0 [(0, .int .i64 (n : Int)), (7, vo), (8, v), (22, .int .i64 (P.length : Int)), (23, .int .i64 (i : Int))] M = some (.exit 0, [(7, vo')], M') ∧ Lst M' vo' 1 (strG n P d i b).length ((ci (strG n P d i b)).map (LV.int .i64)) := by
  have h12 := G.le12
  induction d with
  | zero =>
    intro i b M vo v ib hi hnd hb hL hV hne
    refine ⟨vo, M, ?_, hL⟩
    rw [ring_Strike.L0_eq]
    simp only [ring_Strike.B0, exF_seq, exF_region, exF_cond, exF_exit, runL, wantL, stepL, evL, LEnv.at, putL, loadFine, LEnv.keep, List.map_cons, List.map_nil, nbeq, bin_lss, Nat.reduceEqDiff, decide_true, decide_false, cond_true, cond_false, reduceCtorEq, eq_self, show ¬ ((i : Int) < (P.length : Int)) by omega]
  | succ d ih =>
    intro i b M vo v ib hi hnd hb hL hV hne
    have h2 : i < P.length := by omega
    have hii : (i : Int) < (P.length : Int) := by omega
    have hs := wrap_succ (show i + 1 < 9223372036854775808 by omega)
    obtain ⟨A, B, eA, eB, hAl⟩ := wo_split P b hnd i h2 hb
    have G1 := good_wo G b 0
    have G2 := good_wo G (b ++ [i]) 0
    obtain ⟨M1, f1, k1, l1, V1⟩ := filled_m n G1 hV
    obtain ⟨ex, hv⟩ := V1.view
    have hvp : LV.pures [v] = false := by
      obtain ⟨cap, L, Z, w, rfl, _⟩ := hV
      rfl
    have hv1 := views_one 92 M1 v _ _ hv hvp
    have hlen : (wS P b).length = A.length + 1 + B.length := by rw [wS, eA]; simp; omega
    have hle : (wS P b).length ≤ P.length := woF_len b P 0
    have hcl := clone2_m (args := [v]) (m := M1) ex ((wS P b).map castP) (by rw [List.length_map]; omega) (by
      intro c
      have := congrArg List.length c
      rw [List.length_map, hlen] at this
      simp at this) hv1
    rw [List.length_map] at hcl
    have hblk : (M1 ++ [⟨pcI ((wS P b).map castP), true⟩])[M1.length]? = some ⟨Pcs A ++ Pcs [P[i]] ++ Pcs B, true⟩ := by
      rw [last_at, wS, eA]
      have : pcI ((A ++ P[i] :: B).map castP) = Pcs A ++ Pcs [P[i]] ++ Pcs B := by
        have e := Pcs_app (A ++ [P[i]]) B
        rw [Pcs_app A [P[i]]] at e
        rw [show A ++ P[i] :: B = A ++ [P[i]] ++ B by simp]
        exact e
      rw [this]
    have hdel := delete2_c (M1 ++ [⟨pcI ((wS P b).map castP), true⟩]) M1.length A.length B.length (wS P b).length ((wS P b).length * 2) (Pcs A) (Pcs [P[i]]) (Pcs B) (Pcs_len A) (Pcs_len [P[i]]) (Pcs_len B) hlen rfl (by omega) (Pcs_scalar B) hblk
    rw [last_set] at hdel
    have hV3 : LV2 (M1 ++ [⟨Pcs A ++ Pcs B ++ [.int .i64 0, .int .i64 0], true⟩]) (.sl M1.length 0 (A.length + B.length) (wS P b).length 2 2 ((wS P b).length * 2)) M1.length (wS P (b ++ [i])) := by
      have hl2 : (wS P (b ++ [i])).length = A.length + B.length := by rw [wS, eB]; simp
      refine ⟨(wS P b).length, (wS P b).length * 2, [.int .i64 0, .int .i64 0], true, by rw [hl2], ?_, ?_, by omega⟩
      · rw [last_at, wS, eB, Pcs_app]
      · rw [List.length_append, Pcs_len, hl2]
        simp; omega
    obtain ⟨M4, f2, k4, l4, V4⟩ := filled_m n G2 hV3
    have hibl := hV.lt
    have hM3l : (M1 ++ [⟨Pcs A ++ Pcs B ++ [.int .i64 0, .int .i64 0], true⟩] : LMem).length = M.length + 1 := by simp [l1]
    have hL4 : Lst M4 vo 1 b.length ((ci b).map (LV.int .i64)) := hL.mono fun j hj => by
      have h1 := hL.lt j hj
      have h3 : j ≠ ib := fun e => hne (e ▸ hj)
      rw [k4 j (by omega), List.getElem?_append_left (by omega), k1 j h3]
    have hwat : IntKind.i64.wrap ((i : Int) - (b.length : Int)) = (A.length : Int) := by rw [wrap_in (by omega)]; omega
    have hwat1 : IntKind.i64.wrap ((A.length : Int) + 1) = ((A.length + 1 : Nat) : Int) := wrap_succ (by omega)
    have h38 := tab_38 n (wS P b) anyM n_ring_anyForm [] []
    have hat := tF_at anyM (wS P b) n 0 (Nat.two_pow_pos n)
    have h38b := tab_38 n (wS P (b ++ [i])) anyM n_ring_anyForm [] []
    have hatb := tF_at anyM (wS P (b ++ [i])) n 0 (Nat.two_pow_pos n)
    have hpos := Nat.two_pow_pos n
    have hlo := hL.lenL
    rw [ring_Strike.L0_eq, strG]
    by_cases c : FS n P (b ++ [i]) < FS n P b
    · rw [if_pos c]
      have c' : (((fwD anyM (wS P (b ++ [i])) n 0).1 : Nat) : Int) < (((fwD anyM (wS P b) n 0).1 : Nat) : Int) := by
        have : (fwD anyM (wS P (b ++ [i])) n 0).1 < (fwD anyM (wS P b) n 0).1 := c
        omega
      obtain ⟨vo5, M5, hap, hL5, k5, l5, b5⟩ := hL4.append (x := .lst false true 1 1 [.int .i64 (i : Int)]) (k := 1) (news := [.int .i64 (i : Int)]) (bytes := 8) (by simp [contents, nbeq]) rfl (by omega) (by omega) rfl
      have hL5 : Lst M5 vo5 1 (b ++ [i]).length ((ci (b ++ [i])).map (LV.int .i64)) := by simpa using hL5
      have hn1 : ¬ isBlk vo M1.length := fun h => by have := hL.lt _ h; omega
      have V5 := V4.mono (m' := M5) (k5 M1.length (by rw [l4, hM3l]; omega) hn1)
      obtain ⟨vo', M', hex, hL'⟩ := ih (i + 1) (b ++ [i]) M5 vo5 _ M1.length (by omega) (by
        rw [List.nodup_append]
        refine ⟨hnd, by simp, ?_⟩
        intro x hx y hy
        simp at hy
        have := hb x hx
        omega) (by
        intro x hx
        rcases List.mem_append.1 hx with hx | hx
        · have := hb x hx; omega
        · rw [List.mem_singleton.1 hx]; omega) hL5 V5 (fun h => by
        rcases b5 _ h with h | h
        · exact hn1 h
        · rw [l4, hM3l] at h; omega)
      refine ⟨vo', M', ?_, hL'⟩
      simp only [ring_Strike.B0, exF_seq, exF_region, exF_block, exF_cond, exF_skip, runL, wantL, stepL, evL, evC, LEnv.at, putL, loadFine, loadL, cellsAt, Trk.putNew, Trk.up, Trk.touch, Trk.gives, Trk.calm, opdsOf, Trk.fresh, LEnv.keep, List.map_cons, List.map_nil, nbeq, nble, nblt, ofAV, ofAVs, bin_add, bin_sub, bin_lss, natL_zero, List.any_cons, List.any_nil, Bool.or_false, Bool.true_or, Bool.and_true, Bool.true_and, Bool.not_true, Bool.not_false, Nat.reduceEqDiff, decide_true, decide_false, cond_true, cond_false, List.filter_nil, List.filter_cons, Nat.reduceAdd, Nat.reduceLeDiff, reduceCtorEq, List.length_nil, List.length_cons, Nat.mul_one, if_true, eq_self, List.append_nil, List.nil_append, views_pures, LV.pures, LV.pure, freeze, Nat.reduceDiv, LV.cells, spliceL, List.take_zero, List.take_succ_cons, List.drop_zero, List.drop_succ_cons, List.drop_nil, List.take_nil, Nat.le_refl, fillL, List.length_append, hii, f1, Nat.zero_add, h38, hpos, hat, hlo, hwat, hcl, hwat1, hdel, f2, h38b, hatb, c', hap, hs, hex]
    · rw [if_neg c]
      have c' : ¬ (((fwD anyM (wS P (b ++ [i])) n 0).1 : Nat) : Int) < (((fwD anyM (wS P b) n 0).1 : Nat) : Int) := by
        have : ¬ (fwD anyM (wS P (b ++ [i])) n 0).1 < (fwD anyM (wS P b) n 0).1 := c
        omega
      have V6 := V1.mono (m' := M4) (by rw [k4 ib (by omega), List.getElem?_append_left (by omega)])
      obtain ⟨vo', M', hex, hL'⟩ := ih (i + 1) b M4 vo v ib (by omega) hnd (fun x hx => by have := hb x hx; omega) hL4 V6 hne
      refine ⟨vo', M', ?_, hL'⟩
      simp only [ring_Strike.B0, exF_seq, exF_region, exF_block, exF_cond, exF_skip, runL, wantL, stepL, evL, evC, LEnv.at, putL, loadFine, loadL, cellsAt, Trk.putNew, Trk.up, Trk.touch, Trk.gives, Trk.calm, opdsOf, Trk.fresh, LEnv.keep, List.map_cons, List.map_nil, nbeq, nble, nblt, ofAVs, bin_add, bin_sub, bin_lss, natL_zero, List.any_cons, List.any_nil, Bool.or_false, Bool.true_or, Bool.and_true, Bool.true_and, Bool.not_true, Bool.not_false, Nat.reduceEqDiff, decide_true, decide_false, cond_true, cond_false, List.filter_nil, List.filter_cons, Nat.reduceAdd, Nat.reduceLeDiff, reduceCtorEq, List.length_nil, List.length_cons, Nat.mul_one, if_true, eq_self, List.append_nil, List.nil_append, List.drop_zero, List.length_append, hii, f1, Nat.zero_add, h38, hpos, hat, hlo, hwat, hcl, hwat1, hdel, f2, h38b, hatb, c', hs, hex]
theorem strike_c (n : Nat) (P : List (Nat × Nat)) (G : Good n P) (nl : Bool) (hnl : nl = true → P = []) : ∃ a b z, ∀ m, clF LP n_ring_Strike [.int .i64 (n : Int), FN nl false 2 P] m = some (.P, .tup [.lst a b z (strL n P).length ((ci (strL n P)).map (LV.int .i64)), .int .i64 0], m) := by
  have hc := fun m => check_c nl false 2 (n : Int) (P.map castP) (by have := G.le12; simp; omega) m
  rw [chkF_of G] at hc
  have hpu : LV.pures [.int .i64 (n : Int), FN nl false 2 P] = true := by simp [LV.pures, LV.pure]
  by_cases hP : P = []
  · subst hP
    refine ⟨true, true, 0, fun m => ?_⟩
    have hcl := fun m => clone20_c nl false 2 m
    have hL : exF LP ring_Strike.L0 [(0, .int .i64 (n : Int)), (7, .lst true true 0 0 []), (8, .lst nl true 0 0 []), (22, .int .i64 0), (23, .int .i64 0)] [] = some (.exit 0, [(7, .lst true true 0 0 [])], []) := by
      rw [ring_Strike.L0_eq]
      simp only [ring_Strike.B0, exF_seq, exF_region, exF_cond, exF_exit, runL, wantL, stepL, evL, LEnv.at, putL, loadFine, LEnv.keep, List.map_cons, List.map_nil, nbeq, bin_lss, Nat.reduceEqDiff, decide_true, decide_false, cond_true, cond_false, reduceCtorEq, eq_self, Int.reduceLT]
    have e : strL n [] = [] := rfl
    rw [e]
    refine call_P lp_ring_Strike rfl hpu (m1 := []) ?_ rfl m
    simp only [FN, FL, List.map_nil, List.length_nil, show pcI [] = [] from rfl] at hc ⊢
    simp only [ring_Strike, ring_Strike.B, exF_seq, exF_region, exF_block, exF_cond, exF_ret, exF_skip, runL, wantL, stepL, evL, evC, LEnv.at, putL, loadFine, LEnv.keep, LEnv.ofFrom, List.map_cons, List.map_nil, nbeq, ofAVs, lenL, bin_neq, Nat.reduceEqDiff, decide_true, decide_false, cond_true, cond_false, Nat.reduceAdd, reduceCtorEq, eq_self, retL, resultsL, resAllL, resOfL, List.append_nil, List.nil_append, not_true_eq_false, ne_eq, Int.natCast_zero, hc, hcl, hL]
  · have hnl' : nl = false := by
      cases nl
      · rfl
      · exact absurd (hnl rfl) hP
    subst hnl'
    have hne : P.map castP ≠ [] := by simpa using hP
    have hcl := fun m => clone2_c false (P.map castP) (by have := G.le12; simp; omega) hne m
    rw [List.length_map] at hcl
    have V : LV2 [⟨pcI (P.map castP), true⟩] (.sl 0 0 P.length P.length 2 2 (P.length * 2)) 0 (wS P []) := by
      have e : wS P [] = P := wo_nil P 0
      rw [e]
      exact ⟨P.length, P.length * 2, [], true, rfl, by simp, by simp [Pcs_len], Nat.le_refl _⟩
    obtain ⟨vo', M', he, hL⟩ := strike_ploop n P G P.length 0 [] [⟨pcI (P.map castP), true⟩] (.lst true true 0 0 []) (.sl 0 0 P.length P.length 2 2 (P.length * 2)) 0 (by omega) List.nodup_nil (by simp) (Lst.nil _ 1) V (by simp [isBlk])
    obtain ⟨a, b, z, ids, hz, _, _, hvw⟩ := hL.view (pures_int _ _) (by omega)
    refine ⟨a, b, z, fun m => ?_⟩
    have hv2 : view 100 M' (.tup [vo', .int .i64 0]) = some (.tup [.lst a b z (strL n P).length ((ci (strL n P)).map (LV.int .i64)), .int .i64 0], ids) := by
      by_cases hp : LV.pures [vo', .int .i64 0] = true
      · have e1 := hvw 97
        have hvp : vo'.pure = true := by simpa [LV.pures, LV.pure] using hp
        rw [view_pure 98 M' vo' hvp] at e1
        simp only [Option.some.injEq, Prod.mk.injEq] at e1
        obtain ⟨e1, e2⟩ := e1
        rw [view_pure 98 M' _ (by simpa [LV.pure] using hp), ← e2, e1]
      · exact view_tup2 M' vo' (.int .i64 0) _ ids hvw rfl (by simpa using hp)
    refine call_Pv lp_ring_Strike rfl hpu (m1 := M') (v := .tup [vo', .int .i64 0]) (ids := ids) ?_ hv2 m
    simp only [Int.natCast_zero] at he
    simp only [FN_eq] at hc ⊢
    simp only [FL, List.length_map] at hcl
    simp only [ring_Strike, ring_Strike.B, exF_seq, exF_region, exF_block, exF_cond, exF_ret, exF_skip, runL, wantL, stepL, evL, evC, LEnv.at, putL, loadFine, LEnv.keep, LEnv.ofFrom, List.map_cons, List.map_nil, nbeq, ofAVs, lenL, bin_neq, Nat.reduceEqDiff, decide_true, decide_false, cond_true, cond_false, Nat.reduceAdd, reduceCtorEq, List.length_nil, eq_self, retL, resultsL, resAllL, resOfL, List.append_nil, List.nil_append, not_true_eq_false, ne_eq, hc, hcl, he]
end Go.Am.Ring

